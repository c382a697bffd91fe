/- What the functions of this seat compute on the abstract machine, function by function, and the plain laws. -/
import Derived.Test.YtnfggookadgjiaaTab
import Derived.Test.YtnfggookadgjiaaAmGen
import Derived.KernelRfl
set_option linter.unusedVariables false
set_option linter.unusedSimpArgs false
namespace Go.AM.S22
open Go Go.Proofs Go.AM
set_option maxRecDepth 100000
set_option linter.unusedVariables false
set_option maxHeartbeats 4000000
structure Tree where
 Sym : Int
 Kids : List Tree
mutual
def row_Tree : Tree → List PV
 | .mk f0 f1 => [iv f0, .sl none 2 (rows_Tree f1)]
def rows_Tree : List Tree → List (List PV)
 | [] => []
 | x :: r => row_Tree x :: rows_Tree r
end
theorem rows_Tree_map : ∀ l : List Tree, rows_Tree l = l.map row_Tree
 | [] => rfl
 | x :: r => by rw [rows_Tree, rows_Tree_map r]; rfl
theorem row_Tree_eq (x : Tree) : row_Tree x = [iv x.Sym, .sl none 2 (List.map row_Tree x.Kids)] := by
 cases x; rw [row_Tree]; simp only [rows_Tree_map]
attribute [go_sem] row_Tree_eq
structure Rule where
 Sym : Int
 From : List Int
 To : Int
def row_Rule (x : Rule) : List PV := [iv x.Sym, .sl none 1 (List.map rowI x.From), iv x.To]
theorem row_Rule_eq (x : Rule) : row_Rule x = [iv x.Sym, .sl none 1 (List.map rowI x.From), iv x.To] := rfl
attribute [go_sem] row_Rule_eq
structure Alphabet where
 Ranks : List Int
def row_Alphabet (x : Alphabet) : List PV := [.sl none 1 (List.map rowI x.Ranks)]
theorem row_Alphabet_eq (x : Alphabet) : row_Alphabet x = [.sl none 1 (List.map rowI x.Ranks)] := rfl
attribute [go_sem] row_Alphabet_eq
structure Automaton where
 States : Int
 Final : List Int
 Rules : List Rule
def row_Automaton (x : Automaton) : List PV := [iv x.States, .sl none 1 (List.map rowI x.Final), .sl none 3 (List.map row_Rule x.Rules)]
theorem row_Automaton_eq (x : Automaton) : row_Automaton x = [iv x.States, .sl none 1 (List.map rowI x.Final), .sl none 3 (List.map row_Rule x.Rules)] := rfl
attribute [go_sem] row_Automaton_eq
structure repair_labeled where
 many : Int
 tree : Tree
def row_repair_labeled (x : repair_labeled) : List PV := [iv x.many, iv x.tree.Sym, .sl none 2 (List.map row_Tree x.tree.Kids)]
theorem row_repair_labeled_eq (x : repair_labeled) : row_repair_labeled x = [iv x.many, iv x.tree.Sym, .sl none 2 (List.map row_Tree x.tree.Kids)] := rfl
attribute [go_sem] row_repair_labeled_eq
structure tree_sized where
 sym : Int
 size : Int
 kids : List tree_sized
mutual
def row_tree_sized : tree_sized → List PV
 | .mk f0 f1 f2 => [iv f0, iv f1, .sl none 3 (rows_tree_sized f2)]
def rows_tree_sized : List tree_sized → List (List PV)
 | [] => []
 | x :: r => row_tree_sized x :: rows_tree_sized r
end
theorem rows_tree_sized_map : ∀ l : List tree_sized, rows_tree_sized l = l.map row_tree_sized
 | [] => rfl
 | x :: r => by rw [rows_tree_sized, rows_tree_sized_map r]; rfl
theorem row_tree_sized_eq (x : tree_sized) : row_tree_sized x = [iv x.sym, iv x.size, .sl none 3 (List.map row_tree_sized x.kids)] := by
 cases x; rw [row_tree_sized]; simp only [rows_tree_sized_map]
attribute [go_sem] row_tree_sized_eq
structure repair_holes where
 ok : Bool
 gone : Int
 list : List (List Int)
def row_repair_holes (x : repair_holes) : List PV := [bv x.ok, iv x.gone, .sl none 1 (List.map (rowL 1 rowI) x.list)]
theorem row_repair_holes_eq (x : repair_holes) : row_repair_holes x = [bv x.ok, iv x.gone, .sl none 1 (List.map (rowL 1 rowI) x.list)] := rfl
attribute [go_sem] row_repair_holes_eq
structure ref22_choice where
 some : Bool
 n : Int
 t : Tree
def row_ref22_choice (x : ref22_choice) : List PV := [bv x.some, iv x.n, iv x.t.Sym, .sl none 2 (List.map row_Tree x.t.Kids)]
theorem row_ref22_choice_eq (x : ref22_choice) : row_ref22_choice x = [bv x.some, iv x.n, iv x.t.Sym, .sl none 2 (List.map row_Tree x.t.Kids)] := rfl
attribute [go_sem] row_ref22_choice_eq
structure ref22_cut where
 some : Bool
 nodes : Int
 l : List (List Int)
def row_ref22_cut (x : ref22_cut) : List PV := [bv x.some, iv x.nodes, .sl none 1 (List.map (rowL 1 rowI) x.l)]
theorem row_ref22_cut_eq (x : ref22_cut) : row_ref22_cut x = [bv x.some, iv x.nodes, .sl none 1 (List.map (rowL 1 rowI) x.l)] := rfl
attribute [go_sem] row_ref22_cut_eq
structure repair_Weights where
 Relabel : Int
 Remove : Int
 Insert : Int
def row_repair_Weights (x : repair_Weights) : List PV := [iv x.Relabel, iv x.Remove, iv x.Insert]
theorem row_repair_Weights_eq (x : repair_Weights) : row_repair_Weights x = [iv x.Relabel, iv x.Remove, iv x.Insert] := rfl
attribute [go_sem] row_repair_Weights_eq
structure ref22_Weights where
 Relabel : Int
 Remove : Int
 Insert : Int
def row_ref22_Weights (x : ref22_Weights) : List PV := [iv x.Relabel, iv x.Remove, iv x.Insert]
theorem row_ref22_Weights_eq (x : ref22_Weights) : row_ref22_Weights x = [iv x.Relabel, iv x.Remove, iv x.Insert] := rfl
attribute [go_sem] row_ref22_Weights_eq
def ref01_count : Nat → Tree → Int → Option Int
 | 0, _, _ => none
 | n + 1, a0, a1 =>
  rangeL a0.Kids 1 (fun k1 i1 x1 (s1 : Int) n1 =>
   if s1 ≤ a1 then
    (ref01_count n x1 (w64 (a1 - s1))).bind fun v1 =>
    n1 (w64 (s1 + v1))
   else
    n1 s1) fun s1 =>
  some s1
theorem spec60 : ∀ (n : Nat), (∀ (a0 : Tree) (a1 : Int) (r : Int), ref01_count n a0 a1 = some r →
 call Try.prog T H (.fn 60) [.p (.agg [iv a0.Sym, .sl none 2 (List.map row_Tree a0.Kids)]), .p (iv a1)] [] = some (.ret (.p (iv r)), [])) := by
 intro n
 induction n with
 | zero => intro a0 a1 r h; cases h
 | succ n ih =>
  intro a0 a1 r h
  refine Sat.fn fun Q hQ => ?_
  rw [ref01_count] at h
  rw [call60]
  conv => arg 1; arg 7; unfold S22.c60 Try.f60; simp only [Option.getD_some]
  simp only [go_sem]
  refine run_rangeL (c := L60_0) (live := [1, 5, 9, 10, 11]) (by simp only [go_sem]) (M := fun i1 (s1 : Int) => [(1, .p (iv a1)), (5, .p (iv s1)), (9, .p (.sl none 2 (List.map row_Tree a0.Kids))), (10, .p (iv (a0.Kids.length : Int))), (11, .p (iv (i1 : Int)))]) (Z := fun i1 (s1 : Int) => [.cells [.p (iv a0.Sym), .p (.sl none 2 (List.map row_Tree a0.Kids))]]) (N := fun (s1 : Int) => ⟨[(5, .p (iv s1))], [.cells [.p (iv a0.Sym), .p (.sl none 2 (List.map row_Tree a0.Kids))]], [], none, false⟩) h rfl rfl (fun _ _ => rfl) ?_ ?_ ?_
  ·intro s1 h
   try dsimp only at h ⊢
   simp only [go_sem]
   injection h with h; subst h
   exact Sat.ok hQ
  ·intro K1 s1 hb1 he1
   try dsimp only
   conv => arg 1; arg 7; unfold L60_0 loopAt S22.c60 Try.f60; simp only [loopIn, Option.getD_some, if_true]
   simp only [go_sem, he1]
   exact hb1
  ·intro K1 k1 i1 x1 s1 n1 hR1 hE1 hb1 hx1 hi1 hw1 ih1 h
   try dsimp only at h ⊢
   conv => arg 1; arg 7; unfold L60_0 loopAt S22.c60 Try.f60; simp only [loopIn, Option.getD_some, if_true]
   by_cases c1 : s1 ≤ a1
   ·have h := iteT h c1
    obtain ⟨v1, e_v1, h⟩ := ob h
    have e_v1c : call Try.prog T H (.fn 60) [.p (.agg [iv x1.Sym, .sl none 2 (List.map row_Tree x1.Kids)]), .p (iv (w64 (a1 - s1)))] [] = some (.ret (.p (iv v1)), []) := ih x1 (w64 (a1 - s1)) v1 e_v1
    simp only [go_sem, hx1, hi1, hw1, c1, e_v1c, hR1, hE1]
    exact ih1 (w64 (s1 + v1)) h
   ·have h := iteF h c1
    simp only [go_sem, hx1, hi1, hw1, c1, hR1, hE1]
    exact ih1 s1 h
def ref01_Few (n : Nat) (a0 : Tree) (a1 : Int) : Option Bool :=
 (ref01_count n a0 a1).bind fun v1 =>
 some (decide (v1 ≤ a1))
theorem spec27 (n : Nat) (a0 : Tree) (a1 : Int) (r : Bool) (h : ref01_Few n a0 a1 = some r) :
 call Try.prog T H (.fn 27) [.p (.agg [iv a0.Sym, .sl none 2 (List.map row_Tree a0.Kids)]), .p (iv a1)] [] = some (.ret (.p (bv r)), []) := by
 refine Sat.fn fun Q hQ => ?_
 unfold ref01_Few at h
 rw [call27]
 conv => arg 1; arg 7; unfold S22.c27 Try.f27; simp only [Option.getD_some]
 obtain ⟨v1, e_v1, h⟩ := ob h
 have e_v1c := spec60 n a0 a1 v1 e_v1
 simp only [go_sem, e_v1c]
 injection h with h; subst h
 exact Sat.ok hQ
def law22_few (n : Nat) (a0 : Alphabet) (a1 : Automaton) (a2 : List Tree) : Option Bool :=
 rangeL a2 () (fun k1 i1 x1 (s1 : Unit) n1 =>
  (ref01_Few n x1 80).bind fun v1 =>
  if v1 = true then
   n1 ()
  else
   some false) fun s1 =>
 rangeL a1.Rules () (fun k2 i2 x2 (s2 : Unit) n2 =>
  if 30 < (x2.From.length : Int) then
   some false
  else
   n2 ()) fun s2 =>
 if (a0.Ranks.length : Int) ≤ 60 then
  if a1.States ≤ 40 then
   if (a1.Rules.length : Int) ≤ 400 then
    some (decide ((a1.Final.length : Int) ≤ 400))
   else
    some false
  else
   if 300 < a1.States then
    if (a1.Rules.length : Int) ≤ 400 then
     some (decide ((a1.Final.length : Int) ≤ 400))
    else
     some false
   else
    some false
 else
  some false
theorem spec8 (n : Nat) (a0 : Alphabet) (a1 : Automaton) (a2 : List Tree) (r : Bool) (h : law22_few n a0 a1 a2 = some r) :
 call Try.prog T H (.fn 8) [.p (.agg [.sl none 1 (List.map rowI a0.Ranks)]), .p (.agg [iv a1.States, .sl none 1 (List.map rowI a1.Final), .sl none 3 (List.map row_Rule a1.Rules)]), .p (.sl none 2 (List.map row_Tree a2))] [] = some (.ret (.p (bv r)), []) := by
 refine Sat.fn fun Q hQ => ?_
 unfold law22_few at h
 rw [call8]
 conv => arg 1; arg 7; unfold S22.c8 Try.f8; simp only [Option.getD_some]
 simp only [go_sem]
 refine run_rangeL (c := L8_0) (live := [3, 4, 11, 12, 13]) (by simp only [go_sem]) (M := fun i1 (s1 : Unit) => [(3, .ptr 0 0), (4, .ptr 1 0), (11, .p (.sl none 2 (List.map row_Tree a2))), (12, .p (iv (a2.length : Int))), (13, .p (iv (i1 : Int)))]) (Z := fun i1 (s1 : Unit) => [.cells [.p (.sl none 1 (List.map rowI a0.Ranks))], .cells [.p (iv a1.States), .p (.sl none 1 (List.map rowI a1.Final)), .p (.sl none 3 (List.map row_Rule a1.Rules))]]) (N := fun (s1 : Unit) => ⟨[(3, .ptr 0 0), (4, .ptr 1 0)], [.cells [.p (.sl none 1 (List.map rowI a0.Ranks))], .cells [.p (iv a1.States), .p (.sl none 1 (List.map rowI a1.Final)), .p (.sl none 3 (List.map row_Rule a1.Rules))]], [], none, false⟩) h rfl rfl (fun _ _ => rfl) ?_ ?_ ?_
 ·intro s1 h
  try dsimp only at h ⊢
  simp only [go_sem]
  refine run_rangeL (c := L8_2) (live := [3, 4, 22, 23, 24]) (by simp only [go_sem]) (M := fun i2 (s2 : Unit) => [(3, .ptr 0 0), (4, .ptr 1 0), (22, .p (.sl none 3 (List.map row_Rule a1.Rules))), (23, .p (iv (a1.Rules.length : Int))), (24, .p (iv (i2 : Int)))]) (Z := fun i2 (s2 : Unit) => [.cells [.p (.sl none 1 (List.map rowI a0.Ranks))], .cells [.p (iv a1.States), .p (.sl none 1 (List.map rowI a1.Final)), .p (.sl none 3 (List.map row_Rule a1.Rules))]]) (N := fun (s2 : Unit) => ⟨[(3, .ptr 0 0), (4, .ptr 1 0)], [.cells [.p (.sl none 1 (List.map rowI a0.Ranks))], .cells [.p (iv a1.States), .p (.sl none 1 (List.map rowI a1.Final)), .p (.sl none 3 (List.map row_Rule a1.Rules))]], [], none, false⟩) h rfl rfl (fun _ _ => rfl) ?_ ?_ ?_
  ·intro s2 h
   try dsimp only at h ⊢
   by_cases c1 : (a0.Ranks.length : Int) ≤ 60
   ·have h := iteT h c1
    by_cases c2 : a1.States ≤ 40
    ·have h := iteT h c2
     by_cases c3 : (a1.Rules.length : Int) ≤ 400
     ·have h := iteT h c3
      simp only [go_sem, c1, c2, c3]
      injection h with h; subst h
      exact Sat.ok hQ
     ·have h := iteF h c3
      simp only [go_sem, c1, c2, c3]
      injection h with h; subst h
      exact Sat.ok hQ
    ·have h := iteF h c2
     by_cases c4 : 300 < a1.States
     ·have h := iteT h c4
      by_cases c5 : (a1.Rules.length : Int) ≤ 400
      ·have h := iteT h c5
       simp only [go_sem, c1, c2, c4, c5]
       injection h with h; subst h
       exact Sat.ok hQ
      ·have h := iteF h c5
       simp only [go_sem, c1, c2, c4, c5]
       injection h with h; subst h
       exact Sat.ok hQ
     ·have h := iteF h c4
      simp only [go_sem, c1, c2, c4]
      injection h with h; subst h
      exact Sat.ok hQ
   ·have h := iteF h c1
    simp only [go_sem, c1]
    injection h with h; subst h
    exact Sat.ok hQ
  ·intro K2 s2 hb2 he2
   try dsimp only
   conv => arg 1; arg 7; unfold L8_2 loopAt S22.c8 Try.f8; simp only [loopIn, Option.getD_some, if_true]
   simp only [go_sem, he2]
   exact hb2
  ·intro K2 k2 i2 x2 s2 n2 hR2 hE2 hb2 hx2 hi2 hw2 ih2 h
   try dsimp only at h ⊢
   conv => arg 1; arg 7; unfold L8_2 loopAt S22.c8 Try.f8; simp only [loopIn, Option.getD_some, if_true]
   by_cases c6 : 30 < (x2.From.length : Int)
   ·have h := iteT h c6
    simp only [go_sem, hx2, hi2, hw2, c6, hR2, hE2]
    injection h with h; subst h
    exact Sat.ok hQ
   ·have h := iteF h c6
    simp only [go_sem, hx2, hi2, hw2, c6, hR2, hE2]
    exact ih2 () h
 ·intro K1 s1 hb1 he1
  try dsimp only
  conv => arg 1; arg 7; unfold L8_0 loopAt S22.c8 Try.f8; simp only [loopIn, Option.getD_some, if_true]
  simp only [go_sem, he1]
  exact hb1
 ·intro K1 k1 i1 x1 s1 n1 hR1 hE1 hb1 hx1 hi1 hw1 ih1 h
  try dsimp only at h ⊢
  conv => arg 1; arg 7; unfold L8_0 loopAt S22.c8 Try.f8; simp only [loopIn, Option.getD_some, if_true]
  obtain ⟨v1, e_v1, h⟩ := ob h
  have e_v1c := spec27 n x1 80 v1 e_v1
  by_cases c7 : v1 = true
  ·have h := iteT h c7
   simp only [go_sem, hx1, hi1, hw1, e_v1c, c7, hR1, hE1]
   exact ih1 () h
  ·have h := iteF h c7
   have c7 := eq_false_of_ne_true c7
   simp only [go_sem, hx1, hi1, hw1, e_v1c, c7, hR1, hE1]
   injection h with h; subst h
   exact Sat.ok hQ
def tree_ValidAlphabet_1 (a0 : Int) : Option Bool :=
 if a0 < 0 then
  some true
 else
  some (decide (3 < a0))
theorem spec90 (a0 : Int) (r : Bool) (h : tree_ValidAlphabet_1 a0 = some r) :
 call Try.prog T H (.fn 90) [.p (iv a0)] [] = some (.ret (.p (bv r)), []) := by
 refine Sat.fn fun Q hQ => ?_
 unfold tree_ValidAlphabet_1 at h
 rw [call90]
 conv => arg 1; arg 7; unfold S22.c90 Try.f90; simp only [Option.getD_some]
 by_cases c1 : a0 < 0
 ·have h := iteT h c1
  simp only [go_sem, c1]
  injection h with h; subst h
  exact Sat.ok hQ
 ·have h := iteF h c1
  simp only [go_sem, c1]
  injection h with h; subst h
  exact Sat.ok hQ
def tree_ValidAlphabet (a0 : Alphabet) : Option Bool :=
 if (a0.Ranks.length : Int) ≤ 12 then
  jn (fun (u1 : Int) =>
   some (!(decide (0 ≤ u1)))) fun j1 =>
  rangeL a0.Ranks () (fun k1 i1 x1 (s1 : Unit) n1 =>
   (tree_ValidAlphabet_1 x1).bind fun v1 =>
   if v1 = true then
    j1 (i1 : Int)
   else
    n1 ()) fun s1 =>
  j1 (-1)
 else
  some false
theorem spec61 (a0 : Alphabet) (r : Bool) (h : tree_ValidAlphabet a0 = some r) :
 call Try.prog T H (.fn 61) [.p (.agg [.sl none 1 (List.map rowI a0.Ranks)])] [] = some (.ret (.p (bv r)), []) := by
 refine Sat.fn fun Q hQ => ?_
 unfold tree_ValidAlphabet at h
 rw [call61]
 conv => arg 1; arg 7; unfold S22.c61 Try.f61; simp only [Option.getD_some]
 by_cases c1 : (a0.Ranks.length : Int) ≤ 12
 ·have h := iteT h c1
  simp only [go_sem, c1]
  refine Sat.callc ?_
  rw [call50]
  conv => arg 1; arg 7; unfold S22.c50 Try.f50; simp only [Option.getD_some]
  simp only [go_sem]
  refine Sat.callj (V := fun (u1 : Int) => .p (iv u1)) (Z := fun (u1 : Int) => [.cells [.p (.sl none 1 (List.map rowI a0.Ranks))]]) h ?_ ?_
  ·intro u1 h
   try dsimp only at h ⊢
   simp only [go_sem]
   refine Sat.ok ?_
   dsimp only
   simp only [go_sem]
   injection h with h; subst h
   exact Sat.ok hQ
  ·intro j1 h
   rw [call80]
   conv => arg 1; arg 7; unfold S22.c80 Try.f80; simp only [Option.getD_some]
   simp only [go_sem]
   refine run_rangeL (c := L80_0) (live := [0, 1, 7, 8]) (by simp only [go_sem]) (M := fun i1 (s1 : Unit) => [(0, .p (.sl none 1 (List.map rowI a0.Ranks))), (1, .p (.fn 90)), (7, .p (iv (a0.Ranks.length : Int))), (8, .p (iv (i1 : Int)))]) (Z := fun i1 (s1 : Unit) => [.cells [.p (.sl none 1 (List.map rowI a0.Ranks))]]) (N := fun (s1 : Unit) => ⟨[], [.cells [.p (.sl none 1 (List.map rowI a0.Ranks))]], [], none, false⟩) h rfl rfl (fun _ _ => rfl) ?_ ?_ ?_
   ·intro s1 h
    try dsimp only at h ⊢
    simp only [go_sem]
    exact Sat.ok ⟨(-1), rfl, h⟩
   ·intro K1 s1 hb1 he1
    try dsimp only
    conv => arg 1; arg 7; unfold L80_0 loopAt S22.c80 Try.f80; simp only [loopIn, Option.getD_some, if_true]
    simp only [go_sem, he1]
    exact hb1
   ·intro K1 k1 i1 x1 s1 n1 hR1 hE1 hb1 hx1 hi1 hw1 ih1 h
    try dsimp only at h ⊢
    conv => arg 1; arg 7; unfold L80_0 loopAt S22.c80 Try.f80; simp only [loopIn, Option.getD_some, if_true]
    obtain ⟨v1, e_v1, h⟩ := ob h
    have e_v1c := spec90 x1 v1 e_v1
    by_cases c2 : v1 = true
    ·have h := iteT h c2
     simp only [go_sem, hx1, hi1, hw1, e_v1c, c2, hR1, hE1]
     exact Sat.ok ⟨(i1 : Int), rfl, h⟩
    ·have h := iteF h c2
     have c2 := eq_false_of_ne_true c2
     simp only [go_sem, hx1, hi1, hw1, e_v1c, c2, hR1, hE1]
     exact ih1 () h
 ·have h := iteF h c1
  simp only [go_sem, c1]
  injection h with h; subst h
  exact Sat.ok hQ
def auto_Valid (a0 : Alphabet) (a1 : Automaton) : Option Bool :=
 (tree_ValidAlphabet a0).bind fun v1 =>
 if v1 = true then
  if a1.States < 0 then
   some false
  else
   if 300 < a1.States then
    some false
   else
    if 20000 < (a1.Rules.length : Int) then
     some false
    else
     rangeL a1.Final () (fun k1 i1 x1 (s1 : Unit) n1 =>
      jn (fun (u3 : Bool) =>
       if u3 = true then
        if 0 < (i1 : Int) then
         (idx a1.Final (w64 ((i1 : Int) - 1))).bind fun v3 =>
         if x1 ≤ v3 then
          some false
         else
          n1 ()
        else
         n1 ()
       else
        some false) fun j3 =>
      if 0 ≤ x1 then
       j3 (decide (x1 < a1.States))
      else
       j3 false) fun s1 =>
     rangeL a1.Rules () (fun k3 i3 x3 (s3 : Unit) n3 =>
      if x3.Sym < 0 then
       some false
      else
       if (a0.Ranks.length : Int) ≤ x3.Sym then
        some false
       else
        (idx a0.Ranks x3.Sym).bind fun v2 =>
        if (x3.From.length : Int) = v2 then
         jn (fun (u1 : Bool) =>
          if u1 = true then
           rangeL x3.From () (fun k4 i4 x4 (s4 : Unit) n4 =>
            jn (fun (u2 : Bool) =>
             if u2 = true then
              n4 ()
             else
              some false) fun j2 =>
            if 0 ≤ x4 then
             j2 (decide (x4 < a1.States))
            else
             j2 false) fun s4 =>
           n3 ()
          else
           some false) fun j1 =>
         if 0 ≤ x3.To then
          j1 (decide (x3.To < a1.States))
         else
          j1 false
        else
         some false) fun s3 =>
     some true
 else
  some false
theorem spec28 (a0 : Alphabet) (a1 : Automaton) (r : Bool) (h : auto_Valid a0 a1 = some r) :
 call Try.prog T H (.fn 28) [.p (.agg [.sl none 1 (List.map rowI a0.Ranks)]), .p (.agg [iv a1.States, .sl none 1 (List.map rowI a1.Final), .sl none 3 (List.map row_Rule a1.Rules)])] [] = some (.ret (.p (bv r)), []) := by
 refine Sat.fn fun Q hQ => ?_
 unfold auto_Valid at h
 rw [call28]
 conv => arg 1; arg 7; unfold S22.c28 Try.f28; simp only [Option.getD_some]
 obtain ⟨v1, e_v1, h⟩ := ob h
 have e_v1c := spec61 a0 v1 e_v1
 by_cases c1 : v1 = true
 ·have h := iteT h c1
  by_cases c2 : a1.States < 0
  ·have h := iteT h c2
   simp only [go_sem, e_v1c, c1, c2]
   injection h with h; subst h
   exact Sat.ok hQ
  ·have h := iteF h c2
   by_cases c3 : 300 < a1.States
   ·have h := iteT h c3
    simp only [go_sem, e_v1c, c1, c2, c3]
    injection h with h; subst h
    exact Sat.ok hQ
   ·have h := iteF h c3
    by_cases c4 : 20000 < (a1.Rules.length : Int)
    ·have h := iteT h c4
     simp only [go_sem, e_v1c, c1, c2, c3, c4]
     injection h with h; subst h
     exact Sat.ok hQ
    ·have h := iteF h c4
     simp only [go_sem, e_v1c, c1, c2, c3, c4]
     refine run_rangeL (c := L28_0) (live := [2, 3, 5, 33, 34, 35]) (by simp only [go_sem]) (M := fun i1 (s1 : Unit) => [(2, .ptr 0 0), (3, .ptr 1 0), (5, .fn 62 [.ptr 1 0]), (33, .p (.sl none 1 (List.map rowI a1.Final))), (34, .p (iv (a1.Final.length : Int))), (35, .p (iv (i1 : Int)))]) (Z := fun i1 (s1 : Unit) => [.cells [.p (.sl none 1 (List.map rowI a0.Ranks))], .cells [.p (iv a1.States), .p (.sl none 1 (List.map rowI a1.Final)), .p (.sl none 3 (List.map row_Rule a1.Rules))]]) (N := fun (s1 : Unit) => ⟨[(2, .ptr 0 0), (3, .ptr 1 0), (5, .fn 62 [.ptr 1 0])], [.cells [.p (.sl none 1 (List.map rowI a0.Ranks))], .cells [.p (iv a1.States), .p (.sl none 1 (List.map rowI a1.Final)), .p (.sl none 3 (List.map row_Rule a1.Rules))]], [], none, false⟩) h rfl rfl (fun _ _ => rfl) ?_ ?_ ?_
     ·intro s1 h
      try dsimp only at h ⊢
      simp only [go_sem]
      refine run_rangeL (c := L28_2) (live := [2, 5, 60, 61, 62]) (by simp only [go_sem]) (M := fun i3 (s3 : Unit) => [(2, .ptr 0 0), (5, .fn 62 [.ptr 1 0]), (60, .p (.sl none 3 (List.map row_Rule a1.Rules))), (61, .p (iv (a1.Rules.length : Int))), (62, .p (iv (i3 : Int)))]) (Z := fun i3 (s3 : Unit) => [.cells [.p (.sl none 1 (List.map rowI a0.Ranks))], .cells [.p (iv a1.States), .p (.sl none 1 (List.map rowI a1.Final)), .p (.sl none 3 (List.map row_Rule a1.Rules))]]) (N := fun (s3 : Unit) => ⟨[], [.cells [.p (.sl none 1 (List.map rowI a0.Ranks))], .cells [.p (iv a1.States), .p (.sl none 1 (List.map rowI a1.Final)), .p (.sl none 3 (List.map row_Rule a1.Rules))]], [], none, false⟩) h rfl rfl (fun _ _ => rfl) ?_ ?_ ?_
      ·intro s3 h
       try dsimp only at h ⊢
       simp only [go_sem]
       injection h with h; subst h
       exact Sat.ok hQ
      ·intro K3 s3 hb3 he3
       try dsimp only
       conv => arg 1; arg 7; unfold L28_2 loopAt S22.c28 Try.f28; simp only [loopIn, Option.getD_some, if_true]
       simp only [go_sem, he3]
       exact hb3
      ·intro K3 k3 i3 x3 s3 n3 hR3 hE3 hb3 hx3 hi3 hw3 ih3 h
       try dsimp only at h ⊢
       conv => arg 1; arg 7; unfold L28_2 loopAt S22.c28 Try.f28; simp only [loopIn, Option.getD_some, if_true]
       by_cases c5 : x3.Sym < 0
       ·have h := iteT h c5
        simp only [go_sem, hx3, hi3, hw3, c5, hR3, hE3]
        injection h with h; subst h
        exact Sat.ok hQ
       ·have h := iteF h c5
        by_cases c6 : (a0.Ranks.length : Int) ≤ x3.Sym
        ·have h := iteT h c6
         simp only [go_sem, hx3, hi3, hw3, c5, c6, hR3, hE3]
         injection h with h; subst h
         exact Sat.ok hQ
        ·have h := iteF h c6
         obtain ⟨v2, e_v2, h⟩ := ob h
         obtain ⟨e_v2a, e_v2b⟩ := idx_some e_v2
         by_cases c7 : (x3.From.length : Int) = v2
         ·have h := iteT h c7
          have c7b : ((x3.From.length : Int) != v2) = false := bneF c7
          simp only [go_sem, hx3, hi3, hw3, c5, c6, e_v2a, e_v2b, c7b, hR3, hE3]
          refine Sat.callj (V := fun (u1 : Bool) => .p (bv u1)) (Z := fun (u1 : Bool) => [.cells [.p (.sl none 1 (List.map rowI a0.Ranks))], .cells [.p (iv a1.States), .p (.sl none 1 (List.map rowI a1.Final)), .p (.sl none 3 (List.map row_Rule a1.Rules))], .cells [.p (iv x3.Sym), .p (.sl none 1 (List.map rowI x3.From)), .p (iv x3.To)]]) h ?_ ?_
          ·intro u1 h
           try dsimp only at h ⊢
           by_cases c8 : u1 = true
           ·have h := iteT h c8
            simp only [go_sem, c8, hw3, hR3, hE3]
            refine run_rangeL (c := L28_4) (live := [2, 5, 60, 61, 62, 97, 98, 99]) (by simp only [go_sem]) (M := fun i4 (s4 : Unit) => [(2, .ptr 0 0), (5, .fn 62 [.ptr 1 0]), (60, .p (.sl none 3 (List.map row_Rule a1.Rules))), (61, .p (iv (a1.Rules.length : Int))), (62, .p (iv (i3 : Int))), (97, .p (.sl none 1 (List.map rowI x3.From))), (98, .p (iv (x3.From.length : Int))), (99, .p (iv (i4 : Int)))]) (Z := fun i4 (s4 : Unit) => [.cells [.p (.sl none 1 (List.map rowI a0.Ranks))], .cells [.p (iv a1.States), .p (.sl none 1 (List.map rowI a1.Final)), .p (.sl none 3 (List.map row_Rule a1.Rules))], .cells [.p (iv x3.Sym), .p (.sl none 1 (List.map rowI x3.From)), .p (iv x3.To)]]) (N := fun (s4 : Unit) => ⟨[(2, .ptr 0 0), (5, .fn 62 [.ptr 1 0]), (60, .p (.sl none 3 (List.map row_Rule a1.Rules))), (61, .p (iv (a1.Rules.length : Int))), (62, .p (iv (i3 : Int)))], [.cells [.p (.sl none 1 (List.map rowI a0.Ranks))], .cells [.p (iv a1.States), .p (.sl none 1 (List.map rowI a1.Final)), .p (.sl none 3 (List.map row_Rule a1.Rules))], .cells [.p (iv x3.Sym), .p (.sl none 1 (List.map rowI x3.From)), .p (iv x3.To)]], [], none, false⟩) h rfl rfl (fun _ _ => rfl) ?_ ?_ ?_
            ·intro s4 h
             try dsimp only at h ⊢
             simp only [go_sem, hw3, hR3, hE3]
             exact ih3 () h
            ·intro K4 s4 hb4 he4
             try dsimp only
             conv => arg 1; arg 7; unfold L28_4 loopAt S22.c28 Try.f28; simp only [loopIn, Option.getD_some, if_true]
             simp only [go_sem, he4]
             exact hb4
            ·intro K4 k4 i4 x4 s4 n4 hR4 hE4 hb4 hx4 hi4 hw4 ih4 h
             try dsimp only at h ⊢
             conv => arg 1; arg 7; unfold L28_4 loopAt S22.c28 Try.f28; simp only [loopIn, Option.getD_some, if_true]
             simp only [go_sem, hx4, hi4, hw4, hw3, hR3, hE3, hR4, hE4]
             refine Sat.callj (V := fun (u2 : Bool) => .p (bv u2)) (Z := fun (u2 : Bool) => [.cells [.p (.sl none 1 (List.map rowI a0.Ranks))], .cells [.p (iv a1.States), .p (.sl none 1 (List.map rowI a1.Final)), .p (.sl none 3 (List.map row_Rule a1.Rules))], .cells [.p (iv x3.Sym), .p (.sl none 1 (List.map rowI x3.From)), .p (iv x3.To)]]) h ?_ ?_
             ·intro u2 h
              try dsimp only at h ⊢
              by_cases c9 : u2 = true
              ·have h := iteT h c9
               simp only [go_sem, c9, hw3, hR3, hE3, hw4, hR4, hE4]
               exact ih4 () h
              ·have h := iteF h c9
               have c9 := eq_false_of_ne_true c9
               simp only [go_sem, c9, hw3, hR3, hE3, hw4, hR4, hE4]
               injection h with h; subst h
               exact Sat.ok hQ
             ·intro j2 h
              rw [call62]
              conv => arg 1; arg 7; unfold S22.c62 Try.f62; simp only [Option.getD_some]
              by_cases c10 : 0 ≤ x4
              ·have h := iteT h c10
               simp only [go_sem, c10]
               exact Sat.ok ⟨(decide (x4 < a1.States)), rfl, h⟩
              ·have h := iteF h c10
               simp only [go_sem, c10]
               exact Sat.ok ⟨false, rfl, h⟩
           ·have h := iteF h c8
            have c8 := eq_false_of_ne_true c8
            simp only [go_sem, c8, hw3, hR3, hE3]
            injection h with h; subst h
            exact Sat.ok hQ
          ·intro j1 h
           rw [call62]
           conv => arg 1; arg 7; unfold S22.c62 Try.f62; simp only [Option.getD_some]
           by_cases c11 : 0 ≤ x3.To
           ·have h := iteT h c11
            simp only [go_sem, c11]
            exact Sat.ok ⟨(decide (x3.To < a1.States)), rfl, h⟩
           ·have h := iteF h c11
            simp only [go_sem, c11]
            exact Sat.ok ⟨false, rfl, h⟩
         ·have h := iteF h c7
          have c7b : ((x3.From.length : Int) != v2) = true := bneT c7
          simp only [go_sem, hx3, hi3, hw3, c5, c6, e_v2a, e_v2b, c7b, hR3, hE3]
          injection h with h; subst h
          exact Sat.ok hQ
     ·intro K1 s1 hb1 he1
      try dsimp only
      conv => arg 1; arg 7; unfold L28_0 loopAt S22.c28 Try.f28; simp only [loopIn, Option.getD_some, if_true]
      simp only [go_sem, he1]
      exact hb1
     ·intro K1 k1 i1 x1 s1 n1 hR1 hE1 hb1 hx1 hi1 hw1 ih1 h
      try dsimp only at h ⊢
      conv => arg 1; arg 7; unfold L28_0 loopAt S22.c28 Try.f28; simp only [loopIn, Option.getD_some, if_true]
      simp only [go_sem, hx1, hi1, hw1, hR1, hE1]
      refine Sat.callj (V := fun (u3 : Bool) => .p (bv u3)) (Z := fun (u3 : Bool) => [.cells [.p (.sl none 1 (List.map rowI a0.Ranks))], .cells [.p (iv a1.States), .p (.sl none 1 (List.map rowI a1.Final)), .p (.sl none 3 (List.map row_Rule a1.Rules))]]) h ?_ ?_
      ·intro u3 h
       try dsimp only at h ⊢
       by_cases c12 : u3 = true
       ·have h := iteT h c12
        by_cases c13 : 0 < (i1 : Int)
        ·have h := iteT h c13
         obtain ⟨v3, e_v3, h⟩ := ob h
         obtain ⟨e_v3a, e_v3b⟩ := idx_some e_v3
         by_cases c14 : x1 ≤ v3
         ·have h := iteT h c14
          simp only [go_sem, c12, c13, e_v3a, e_v3b, c14, hw1, hR1, hE1]
          injection h with h; subst h
          exact Sat.ok hQ
         ·have h := iteF h c14
          simp only [go_sem, c12, c13, e_v3a, e_v3b, c14, hw1, hR1, hE1]
          exact ih1 () h
        ·have h := iteF h c13
         simp only [go_sem, c12, c13, hw1, hR1, hE1]
         exact ih1 () h
       ·have h := iteF h c12
        have c12 := eq_false_of_ne_true c12
        simp only [go_sem, c12, hw1, hR1, hE1]
        injection h with h; subst h
        exact Sat.ok hQ
      ·intro j3 h
       rw [call62]
       conv => arg 1; arg 7; unfold S22.c62 Try.f62; simp only [Option.getD_some]
       by_cases c15 : 0 ≤ x1
       ·have h := iteT h c15
        simp only [go_sem, c15]
        exact Sat.ok ⟨(decide (x1 < a1.States)), rfl, h⟩
       ·have h := iteF h c15
        simp only [go_sem, c15]
        exact Sat.ok ⟨false, rfl, h⟩
 ·have h := iteF h c1
  have c1 := eq_false_of_ne_true c1
  simp only [go_sem, e_v1c, c1]
  injection h with h; subst h
  exact Sat.ok hQ
def tree_formed : Nat → Alphabet → Tree → Int → Option (Bool × Int)
 | 0, _, _, _ => none
 | n + 1, a0, a1, a2 =>
  if (w64 (a2 - 1)) < 0 then
   some (false, w64 (a2 - 1))
  else
   if a1.Sym < 0 then
    some (false, w64 (a2 - 1))
   else
    if (a0.Ranks.length : Int) ≤ a1.Sym then
     some (false, w64 (a2 - 1))
    else
     (idx a0.Ranks a1.Sym).bind fun v1 =>
     if (a1.Kids.length : Int) = v1 then
      rangeL a1.Kids (w64 (a2 - 1)) (fun k1 i1 x1 (s1 : Int) n1 =>
       (tree_formed n a0 x1 s1).bind fun v2 =>
       if v2.1 = true then
        n1 v2.2
       else
        some (false, v2.2)) fun s1 =>
      some (true, s1)
     else
      some (false, w64 (a2 - 1))
theorem spec63 : ∀ (n : Nat), (∀ (σ : List AObj) (p2 : Nat) (hp2 : p2 < σ.length) (a0 : Alphabet) (a1 : Tree) (a2 : Int) (r : Bool × Int), tree_formed n a0 a1 a2 = some r →
 call Try.prog T H (.fn 63) [.p (.agg [.sl none 1 (List.map rowI a0.Ranks)]), .p (.agg [iv a1.Sym, .sl none 2 (List.map row_Tree a1.Kids)]), .ptr p2 0] (List.set σ p2 (.cells [.p (iv a2)])) = some (.ret (.p (bv r.1)), (List.set σ p2 (.cells [.p (iv r.2)])))) := by
 intro n
 induction n with
 | zero => intro σ p2 hp2 a0 a1 a2 r h; cases h
 | succ n ih =>
  intro σ p2 hp2 a0 a1 a2 r h
  refine Sat.fn fun Q hQ => ?_
  rw [tree_formed] at h
  rw [call63]
  conv => arg 1; arg 7; unfold S22.c63 Try.f63; simp only [Option.getD_some]
  by_cases c1 : (w64 (a2 - 1)) < 0
  ·have h := iteT h c1
   simp only [go_sem, c1, hp2, fun k => Nat.lt_add_right k hp2, Nat.not_le_of_lt hp2, fun k => Nat.not_le_of_lt (Nat.lt_add_right k hp2)]
   injection h with h; subst h
   exact Sat.ok hQ
  ·have h := iteF h c1
   by_cases c2 : a1.Sym < 0
   ·have h := iteT h c2
    simp only [go_sem, c1, c2, hp2, fun k => Nat.lt_add_right k hp2, Nat.not_le_of_lt hp2, fun k => Nat.not_le_of_lt (Nat.lt_add_right k hp2)]
    injection h with h; subst h
    exact Sat.ok hQ
   ·have h := iteF h c2
    by_cases c3 : (a0.Ranks.length : Int) ≤ a1.Sym
    ·have h := iteT h c3
     simp only [go_sem, c1, c2, c3, hp2, fun k => Nat.lt_add_right k hp2, Nat.not_le_of_lt hp2, fun k => Nat.not_le_of_lt (Nat.lt_add_right k hp2)]
     injection h with h; subst h
     exact Sat.ok hQ
    ·have h := iteF h c3
     obtain ⟨v1, e_v1, h⟩ := ob h
     obtain ⟨e_v1a, e_v1b⟩ := idx_some e_v1
     by_cases c4 : (a1.Kids.length : Int) = v1
     ·have h := iteT h c4
      have c4b : ((a1.Kids.length : Int) != v1) = false := bneF c4
      simp only [go_sem, c1, c2, c3, e_v1a, e_v1b, c4b, hp2, fun k => Nat.lt_add_right k hp2, Nat.not_le_of_lt hp2, fun k => Nat.not_le_of_lt (Nat.lt_add_right k hp2)]
      refine run_rangeL (c := L63_0) (live := [2, 3, 44, 45, 46]) (by simp only [go_sem]) (M := fun i1 (s1 : Int) => [(2, .ptr p2 0), (3, .ptr σ.length 0), (44, .p (.sl none 2 (List.map row_Tree a1.Kids))), (45, .p (iv (a1.Kids.length : Int))), (46, .p (iv (i1 : Int)))]) (Z := fun i1 (s1 : Int) => ((List.set σ p2 (.cells [.p (iv s1)])) ++ [.cells [.p (.sl none 1 (List.map rowI a0.Ranks))], .cells [.p (iv a1.Sym), .p (.sl none 2 (List.map row_Tree a1.Kids))]])) (N := fun (s1 : Int) => ⟨[], ((List.set σ p2 (.cells [.p (iv s1)])) ++ [.cells [.p (.sl none 1 (List.map rowI a0.Ranks))], .cells [.p (iv a1.Sym), .p (.sl none 2 (List.map row_Tree a1.Kids))]]), [], none, false⟩) h rfl rfl (fun _ _ => rfl) ?_ ?_ ?_
      ·intro s1 h
       try dsimp only at h ⊢
       simp only [go_sem, hp2, fun k => Nat.lt_add_right k hp2, Nat.not_le_of_lt hp2, fun k => Nat.not_le_of_lt (Nat.lt_add_right k hp2)]
       injection h with h; subst h
       exact Sat.ok hQ
      ·intro K1 s1 hb1 he1
       try dsimp only
       conv => arg 1; arg 7; unfold L63_0 loopAt S22.c63 Try.f63; simp only [loopIn, Option.getD_some, if_true]
       simp only [go_sem, he1, hp2, fun k => Nat.lt_add_right k hp2, Nat.not_le_of_lt hp2, fun k => Nat.not_le_of_lt (Nat.lt_add_right k hp2)]
       exact hb1
      ·intro K1 k1 i1 x1 s1 n1 hR1 hE1 hb1 hx1 hi1 hw1 ih1 h
       try dsimp only at h ⊢
       conv => arg 1; arg 7; unfold L63_0 loopAt S22.c63 Try.f63; simp only [loopIn, Option.getD_some, if_true]
       obtain ⟨v2, e_v2, h⟩ := ob h
       have e_v2c : call Try.prog T H (.fn 63) [.p (.agg [.sl none 1 (List.map rowI a0.Ranks)]), .p (.agg [iv x1.Sym, .sl none 2 (List.map row_Tree x1.Kids)]), .ptr p2 0] ((List.set σ p2 (.cells [.p (iv s1)])) ++ [.cells [.p (.sl none 1 (List.map rowI a0.Ranks))], .cells [.p (iv a1.Sym), .p (.sl none 2 (List.map row_Tree a1.Kids))], .cells [.p (iv x1.Sym), .p (.sl none 2 (List.map row_Tree x1.Kids))]]) = some (.ret (.p (bv v2.1)), ((List.set σ p2 (.cells [.p (iv v2.2)])) ++ [.cells [.p (.sl none 1 (List.map rowI a0.Ranks))], .cells [.p (iv a1.Sym), .p (.sl none 2 (List.map row_Tree a1.Kids))], .cells [.p (iv x1.Sym), .p (.sl none 2 (List.map row_Tree x1.Kids))]])) := by have q := ih ((List.set σ p2 (.cells [.p (iv s1)])) ++ [.cells [.p (.sl none 1 (List.map rowI a0.Ranks))], .cells [.p (iv a1.Sym), .p (.sl none 2 (List.map row_Tree a1.Kids))], .cells [.p (iv x1.Sym), .p (.sl none 2 (List.map row_Tree x1.Kids))]]) p2 (by simp only [List.length_append, List.length_set, List.length_cons, List.length_nil]; omega) a0 x1 s1 v2 e_v2; first | (simp only [go_sem, hp2, fun k => Nat.lt_add_right k hp2, Nat.not_le_of_lt hp2, fun k => Nat.not_le_of_lt (Nat.lt_add_right k hp2)] at q ⊢; exact q) | exact q
       by_cases c5 : v2.1 = true
       ·have h := iteT h c5
        simp only [go_sem, hx1, hi1, hw1, e_v2c, c5, hR1, hE1, hp2, fun k => Nat.lt_add_right k hp2, Nat.not_le_of_lt hp2, fun k => Nat.not_le_of_lt (Nat.lt_add_right k hp2)]
        exact ih1 v2.2 h
       ·have h := iteF h c5
        have c5 := eq_false_of_ne_true c5
        simp only [go_sem, hx1, hi1, hw1, e_v2c, c5, hR1, hE1, hp2, fun k => Nat.lt_add_right k hp2, Nat.not_le_of_lt hp2, fun k => Nat.not_le_of_lt (Nat.lt_add_right k hp2)]
        injection h with h; subst h
        exact Sat.ok hQ
     ·have h := iteF h c4
      have c4b : ((a1.Kids.length : Int) != v1) = true := bneT c4
      simp only [go_sem, c1, c2, c3, e_v1a, e_v1b, c4b, hp2, fun k => Nat.lt_add_right k hp2, Nat.not_le_of_lt hp2, fun k => Nat.not_le_of_lt (Nat.lt_add_right k hp2)]
      injection h with h; subst h
      exact Sat.ok hQ
def tree_Valid (n : Nat) (a0 : Alphabet) (a1 : Tree) : Option Bool :=
 (tree_ValidAlphabet a0).bind fun v1 =>
 if v1 = true then
  (tree_formed n a0 a1 300).bind fun v2 =>
  some v2.1
 else
  some false
theorem spec29 (n : Nat) (a0 : Alphabet) (a1 : Tree) (r : Bool) (h : tree_Valid n a0 a1 = some r) :
 call Try.prog T H (.fn 29) [.p (.agg [.sl none 1 (List.map rowI a0.Ranks)]), .p (.agg [iv a1.Sym, .sl none 2 (List.map row_Tree a1.Kids)])] [] = some (.ret (.p (bv r)), []) := by
 refine Sat.fn fun Q hQ => ?_
 unfold tree_Valid at h
 rw [call29]
 conv => arg 1; arg 7; unfold S22.c29 Try.f29; simp only [Option.getD_some]
 obtain ⟨v1, e_v1, h⟩ := ob h
 have e_v1c := spec61 a0 v1 e_v1
 by_cases c1 : v1 = true
 ·have h := iteT h c1
  obtain ⟨v2, e_v2, h⟩ := ob h
  have e_v2c : call Try.prog T H (.fn 63) [.p (.agg [.sl none 1 (List.map rowI a0.Ranks)]), .p (.agg [iv a1.Sym, .sl none 2 (List.map row_Tree a1.Kids)]), .ptr 2 0] [.cells [.p (.sl none 1 (List.map rowI a0.Ranks))], .cells [.p (iv a1.Sym), .p (.sl none 2 (List.map row_Tree a1.Kids))], .cells [.p (iv 300)]] = some (.ret (.p (bv v2.1)), [.cells [.p (.sl none 1 (List.map rowI a0.Ranks))], .cells [.p (iv a1.Sym), .p (.sl none 2 (List.map row_Tree a1.Kids))], .cells [.p (iv v2.2)]]) := by have q := spec63 n [.cells [.p (.sl none 1 (List.map rowI a0.Ranks))], .cells [.p (iv a1.Sym), .p (.sl none 2 (List.map row_Tree a1.Kids))], .cells [.p (iv 300)]] 2 (by simp only [List.length_append, List.length_set, List.length_cons, List.length_nil]; omega) a0 a1 300 v2 e_v2; first | (simp only [go_sem] at q ⊢; exact q) | exact q
  simp only [go_sem, e_v1c, c1, e_v2c]
  injection h with h; subst h
  exact Sat.ok hQ
 ·have h := iteF h c1
  have c1 := eq_false_of_ne_true c1
  simp only [go_sem, e_v1c, c1]
  injection h with h; subst h
  exact Sat.ok hQ
def cmp_isNaN_int (a0 : Int) : Option Bool :=
 some (a0 != a0)
theorem spec103 (a0 : Int) (r : Bool) (h : cmp_isNaN_int a0 = some r) :
 call Try.prog T H (.fn 103) [.p (iv a0)] [] = some (.ret (.p (bv r)), []) := by
 refine Sat.fn fun Q hQ => ?_
 unfold cmp_isNaN_int at h
 rw [call103]
 conv => arg 1; arg 7; unfold S22.c103 Try.f103; simp only [Option.getD_some]
 simp only [go_sem]
 injection h with h; subst h
 exact Sat.ok hQ
def cmp_Compare_int (a0 : Int) (a1 : Int) : Option Int :=
 (cmp_isNaN_int a0).bind fun v1 =>
 (cmp_isNaN_int a1).bind fun v2 =>
 if v1 = true then
  if v2 = true then
   some 0
  else
   some (-1)
 else
  if v2 = true then
   some 1
  else
   if a0 < a1 then
    some (-1)
   else
    if a1 < a0 then
     some 1
    else
     some 0
theorem spec95 (a0 : Int) (a1 : Int) (r : Int) (h : cmp_Compare_int a0 a1 = some r) :
 call Try.prog T H (.fn 95) [.p (iv a0), .p (iv a1)] [] = some (.ret (.p (iv r)), []) := by
 refine Sat.fn fun Q hQ => ?_
 unfold cmp_Compare_int at h
 rw [call95]
 conv => arg 1; arg 7; unfold S22.c95 Try.f95; simp only [Option.getD_some]
 obtain ⟨v1, e_v1, h⟩ := ob h
 have e_v1c := spec103 a0 v1 e_v1
 obtain ⟨v2, e_v2, h⟩ := ob h
 have e_v2c := spec103 a1 v2 e_v2
 by_cases c1 : v1 = true
 ·have h := iteT h c1
  by_cases c2 : v2 = true
  ·have h := iteT h c2
   simp only [go_sem, e_v1c, e_v2c, c1, c2]
   injection h with h; subst h
   exact Sat.ok hQ
  ·have h := iteF h c2
   have c2 := eq_false_of_ne_true c2
   simp only [go_sem, e_v1c, e_v2c, c1, c2]
   injection h with h; subst h
   exact Sat.ok hQ
 ·have h := iteF h c1
  have c1 := eq_false_of_ne_true c1
  by_cases c3 : v2 = true
  ·have h := iteT h c3
   simp only [go_sem, e_v1c, e_v2c, c1, c3]
   injection h with h; subst h
   exact Sat.ok hQ
  ·have h := iteF h c3
   have c3 := eq_false_of_ne_true c3
   by_cases c4 : a0 < a1
   ·have h := iteT h c4
    simp only [go_sem, e_v1c, e_v2c, c1, c3, c4]
    injection h with h; subst h
    exact Sat.ok hQ
   ·have h := iteF h c4
    by_cases c5 : a1 < a0
    ·have h := iteT h c5
     simp only [go_sem, e_v1c, e_v2c, c1, c3, c4, c5]
     injection h with h; subst h
     exact Sat.ok hQ
    ·have h := iteF h c5
     simp only [go_sem, e_v1c, e_v2c, c1, c3, c4, c5]
     injection h with h; subst h
     exact Sat.ok hQ
def tree_measure : Nat → Tree → Option tree_sized
 | 0, _ => none
 | n + 1, a0 =>
  rangeL a0.Kids (1, ([] : List tree_sized)) (fun k1 i1 x1 (s1 : Int × (List tree_sized)) n1 =>
   (tree_measure n x1).bind fun v1 =>
   (app 40 s1.2 [v1]).bind fun v2 =>
   n1 (w64 (s1.1 + v1.size), v2)) fun s1 =>
  some (tree_sized.mk a0.Sym s1.1 s1.2)
def empty_plus (a0 : Int) (a1 : Int) : Option Int :=
 if 4611686018427387904 ≤ a0 then
  some 4611686018427387904
 else
  if 4611686018427387904 ≤ a1 then
   some 4611686018427387904
  else
   some (minI (w64 (a0 + a1)) 4611686018427387904)
theorem spec94 (a0 : Int) (a1 : Int) (r : Int) (h : empty_plus a0 a1 = some r) :
 call Try.prog T H (.fn 94) [.p (iv a0), .p (iv a1)] [] = some (.ret (.p (iv r)), []) := by
 refine Sat.fn fun Q hQ => ?_
 unfold empty_plus at h
 rw [call94]
 conv => arg 1; arg 7; unfold S22.c94 Try.f94; simp only [Option.getD_some]
 by_cases c1 : 4611686018427387904 ≤ a0
 ·have h := iteT h c1
  simp only [go_sem, c1]
  injection h with h; subst h
  exact Sat.ok hQ
 ·have h := iteF h c1
  by_cases c2 : 4611686018427387904 ≤ a1
  ·have h := iteT h c2
   simp only [go_sem, c1, c2]
   injection h with h; subst h
   exact Sat.ok hQ
  ·have h := iteF h c2
   simp only [go_sem, c1, c2]
   injection h with h; subst h
   exact Sat.ok hQ
def empty_sizes (a0 : Automaton) : Option (List Int) :=
 (mkz 8 a0.States a0.States 0).bind fun v1 =>
 rangeI a0.States v1 (fun k9 i9 (s9 : (List Int)) n9 =>
  rangeL a0.Rules (false, s9) (fun k12 i12 x12 (s12 : Bool × (List Int)) n12 =>
   rangeL x12.From 1 (fun k13 i13 x13 (s13 : Int) n13 =>
    (idxM ((a0.States).toNat) s12.2 x13).bind fun v4 =>
    if v4 = 0 then
     n12 (s12.1, s12.2)
    else
     (empty_plus s13 v4).bind fun v5 =>
     n13 v5) fun s13 =>
   (idxM ((a0.States).toNat) s12.2 x12.To).bind fun v3 =>
   if v3 = 0 then
    n12 (true, (List.set s12.2 ((x12.To).toNat) s13))
   else
    if s13 < v3 then
     n12 (true, (List.set s12.2 ((x12.To).toNat) s13))
    else
     n12 (s12.1, s12.2)) fun s12 =>
  if s12.1 = true then
   n9 s12.2
  else
   k9 s12.2) fun s9 =>
 (tkM ((a0.States).toNat) s9).bind fun v2 =>
 some v2
theorem spec69 (a0 : Automaton) (r : List Int) (h : empty_sizes a0 = some r) :
 call Try.prog T H (.fn 69) [.p (.agg [iv a0.States, .sl none 1 (List.map rowI a0.Final), .sl none 3 (List.map row_Rule a0.Rules)])] [] = some (.ret (.p (.sl none 1 (List.map rowI r))), []) := by
 refine Sat.fn fun Q hQ => ?_
 unfold empty_sizes at h
 rw [call69]
 conv => arg 1; arg 7; unfold S22.c69 Try.f69; simp only [Option.getD_some]
 obtain ⟨v1, e_v1, h⟩ := ob h
 obtain ⟨e_v11, e_v12, e_v13, e_v14⟩ := mkz_some e_v1
 have e_v1b : boundOk (a0.States).toNat 8 = true := bnd_of e_v13 (by decide)
 have e_v1r : List.replicate (a0.States).toNat [AV.p (iv 0)] = List.map (rowA rowI) v1 := by rw [e_v14]; exact rep_map (by first | rfl | simp only [go_sem, List.map_nil])
 simp only [go_sem, e_v11, e_v12, e_v1b, e_v1r]
 refine run_rangeI (c := L69_0) (live := [1, 3, 14, 15]) (by simp only [go_sem]) (M := fun i9 (s9 : (List Int)) => [(1, .ptr 0 0), (3, .ms 1 0 1 0 ((a0.States).toNat)), (14, .p (iv a0.States)), (15, .p (iv (i9 : Int)))]) (Z := fun i9 (s9 : (List Int)) => [.cells [.p (iv a0.States), .p (.sl none 1 (List.map rowI a0.Final)), .p (.sl none 3 (List.map row_Rule a0.Rules))], .arr 0 1 (List.map (rowA rowI) s9)]) (N := fun (s9 : (List Int)) => ⟨[(3, .ms 1 0 1 0 ((a0.States).toNat))], [.cells [.p (iv a0.States), .p (.sl none 1 (List.map rowI a0.Final)), .p (.sl none 3 (List.map row_Rule a0.Rules))], .arr 0 1 (List.map (rowA rowI) s9)], [], none, false⟩) h rfl rfl (fun _ _ => rfl) ?_ ?_ ?_
 ·intro s9 h
  try dsimp only at h ⊢
  obtain ⟨v2, e_v2, h⟩ := ob h
  have e_v2a := (tkM_some e_v2).1
  have e_v2b := (tkM_some e_v2).2
  simp only [go_sem, e_v2a, e_v2b]
  injection h with h; subst h
  exact Sat.ok hQ
 ·intro K9 i9 s9 hb9 he9
  try dsimp only
  conv => arg 1; arg 7; unfold L69_0 loopAt S22.c69 Try.f69; simp only [loopIn, Option.getD_some, if_true]
  simp only [go_sem, he9]
  exact hb9
 ·intro K9 k9 i9 s9 n9 hR9 hE9 hb9 hi9 hw9 ih9 h
  try dsimp only at h ⊢
  conv => arg 1; arg 7; unfold L69_0 loopAt S22.c69 Try.f69; simp only [loopIn, Option.getD_some, if_true]
  simp only [go_sem, hi9, hw9, hR9, hE9]
  refine run_rangeL (c := L69_2) (live := [1, 3, 4, 14, 15, 18, 19, 20]) (by simp only [go_sem]) (M := fun i12 (s12 : Bool × (List Int)) => [(1, .ptr 0 0), (3, .ms 1 0 1 0 ((a0.States).toNat)), (4, .p (bv s12.1)), (14, .p (iv a0.States)), (15, .p (iv (i9 : Int))), (18, .p (.sl none 3 (List.map row_Rule a0.Rules))), (19, .p (iv (a0.Rules.length : Int))), (20, .p (iv (i12 : Int)))]) (Z := fun i12 (s12 : Bool × (List Int)) => [.cells [.p (iv a0.States), .p (.sl none 1 (List.map rowI a0.Final)), .p (.sl none 3 (List.map row_Rule a0.Rules))], .arr 0 1 (List.map (rowA rowI) s12.2)]) (N := fun (s12 : Bool × (List Int)) => ⟨[(1, .ptr 0 0), (3, .ms 1 0 1 0 ((a0.States).toNat)), (4, .p (bv s12.1)), (14, .p (iv a0.States)), (15, .p (iv (i9 : Int)))], [.cells [.p (iv a0.States), .p (.sl none 1 (List.map rowI a0.Final)), .p (.sl none 3 (List.map row_Rule a0.Rules))], .arr 0 1 (List.map (rowA rowI) s12.2)], [], none, false⟩) h rfl rfl (fun _ _ => rfl) ?_ ?_ ?_
  ·intro s12 h
   try dsimp only at h ⊢
   by_cases c1 : s12.1 = true
   ·have h := iteT h c1
    simp only [go_sem, c1, hw9, hR9, hE9]
    exact ih9 s12.2 h
   ·have h := iteF h c1
    have c1 := eq_false_of_ne_true c1
    simp only [go_sem, c1, hw9, hR9, hE9]
    exact hb9 s12.2 h
  ·intro K12 s12 hb12 he12
   try dsimp only
   conv => arg 1; arg 7; unfold L69_2 loopAt S22.c69 Try.f69; simp only [loopIn, Option.getD_some, if_true]
   simp only [go_sem, he12]
   exact hb12
  ·intro K12 k12 i12 x12 s12 n12 hR12 hE12 hb12 hx12 hi12 hw12 ih12 h
   try dsimp only at h ⊢
   conv => arg 1; arg 7; unfold L69_2 loopAt S22.c69 Try.f69; simp only [loopIn, Option.getD_some, if_true]
   simp only [go_sem, hx12, hi12, hw12, hw9, hR9, hE9, hR12, hE12]
   refine run_rangeL (c := L69_4) (live := [1, 3, 4, 6, 7, 14, 15, 18, 19, 20, 25, 26, 27]) (by simp only [go_sem]) (M := fun i13 (s13 : Int) => [(1, .ptr 0 0), (3, .ms 1 0 1 0 ((a0.States).toNat)), (4, .p (bv s12.1)), (6, .ptr 2 0), (7, .p (iv s13)), (14, .p (iv a0.States)), (15, .p (iv (i9 : Int))), (18, .p (.sl none 3 (List.map row_Rule a0.Rules))), (19, .p (iv (a0.Rules.length : Int))), (20, .p (iv (i12 : Int))), (25, .p (.sl none 1 (List.map rowI x12.From))), (26, .p (iv (x12.From.length : Int))), (27, .p (iv (i13 : Int)))]) (Z := fun i13 (s13 : Int) => [.cells [.p (iv a0.States), .p (.sl none 1 (List.map rowI a0.Final)), .p (.sl none 3 (List.map row_Rule a0.Rules))], .arr 0 1 (List.map (rowA rowI) s12.2), .cells [.p (iv x12.Sym), .p (.sl none 1 (List.map rowI x12.From)), .p (iv x12.To)]]) (N := fun (s13 : Int) => ⟨[(1, .ptr 0 0), (3, .ms 1 0 1 0 ((a0.States).toNat)), (4, .p (bv s12.1)), (6, .ptr 2 0), (7, .p (iv s13)), (14, .p (iv a0.States)), (15, .p (iv (i9 : Int))), (18, .p (.sl none 3 (List.map row_Rule a0.Rules))), (19, .p (iv (a0.Rules.length : Int))), (20, .p (iv (i12 : Int)))], [.cells [.p (iv a0.States), .p (.sl none 1 (List.map rowI a0.Final)), .p (.sl none 3 (List.map row_Rule a0.Rules))], .arr 0 1 (List.map (rowA rowI) s12.2), .cells [.p (iv x12.Sym), .p (.sl none 1 (List.map rowI x12.From)), .p (iv x12.To)]], [], none, false⟩) h rfl rfl (fun _ _ => rfl) ?_ ?_ ?_
   ·intro s13 h
    try dsimp only at h ⊢
    obtain ⟨v3, e_v3, h⟩ := ob h
    obtain ⟨e_v3a, e_v3b, e_v3d⟩ := idxM_some e_v3
    by_cases c2 : v3 = 0
    ·have h := iteT h c2
     have c2b : (v3 == 0) = true := beqT c2
     have e_y1 : List.set (List.map (rowA rowI) s12.2) ((x12.To).toNat) [.p (iv s13)] = List.map (rowA rowI) (List.set s12.2 ((x12.To).toNat) s13) := map_set' (by first | rfl | simp only [go_sem, List.map_cons, List.map_nil])
     simp only [go_sem, e_v3a, e_v3b, e_v3d, c2b, e_y1, hw9, hR9, hE9, hw12, hR12, hE12]
     exact ih12 (true, (List.set s12.2 ((x12.To).toNat) s13)) h
    ·have h := iteF h c2
     have c2b : (v3 == 0) = false := beqF c2
     by_cases c3 : s13 < v3
     ·have h := iteT h c3
      have e_y2 : List.set (List.map (rowA rowI) s12.2) ((x12.To).toNat) [.p (iv s13)] = List.map (rowA rowI) (List.set s12.2 ((x12.To).toNat) s13) := map_set' (by first | rfl | simp only [go_sem, List.map_cons, List.map_nil])
      simp only [go_sem, e_v3a, e_v3b, e_v3d, c2b, c3, e_y2, hw9, hR9, hE9, hw12, hR12, hE12]
      exact ih12 (true, (List.set s12.2 ((x12.To).toNat) s13)) h
     ·have h := iteF h c3
      simp only [go_sem, e_v3a, e_v3b, e_v3d, c2b, c3, hw9, hR9, hE9, hw12, hR12, hE12]
      exact ih12 (s12.1, s12.2) h
   ·intro K13 s13 hb13 he13
    try dsimp only
    conv => arg 1; arg 7; unfold L69_4 loopAt S22.c69 Try.f69; simp only [loopIn, Option.getD_some, if_true]
    simp only [go_sem, he13]
    exact hb13
   ·intro K13 k13 i13 x13 s13 n13 hR13 hE13 hb13 hx13 hi13 hw13 ih13 h
    try dsimp only at h ⊢
    conv => arg 1; arg 7; unfold L69_4 loopAt S22.c69 Try.f69; simp only [loopIn, Option.getD_some, if_true]
    obtain ⟨v4, e_v4, h⟩ := ob h
    obtain ⟨e_v4a, e_v4b, e_v4d⟩ := idxM_some e_v4
    by_cases c4 : v4 = 0
    ·have h := iteT h c4
     have c4b : (v4 == 0) = true := beqT c4
     simp only [go_sem, hx13, hi13, hw13, e_v4a, e_v4b, e_v4d, c4b, hw9, hR9, hE9, hw12, hR12, hE12, hR13, hE13]
     exact ih12 (s12.1, s12.2) h
    ·have h := iteF h c4
     have c4b : (v4 == 0) = false := beqF c4
     obtain ⟨v5, e_v5, h⟩ := ob h
     have e_v5c := spec94 s13 v4 v5 e_v5
     simp only [go_sem, hx13, hi13, hw13, e_v4a, e_v4b, e_v4d, c4b, e_v5c, hw9, hR9, hE9, hw12, hR12, hE12, hR13, hE13]
     exact ih13 v5 h
def empty_Sizes (a0 : Alphabet) (a1 : Automaton) : Option ((List Int) × Int) :=
 (auto_Valid a0 a1).bind fun v1 =>
 if v1 = true then
  (empty_sizes a1).bind fun v2 =>
  some (v2, 0)
 else
  some (([] : List Int), 1)
theorem spec37 (a0 : Alphabet) (a1 : Automaton) (r : (List Int) × Int) (h : empty_Sizes a0 a1 = some r) :
 call Try.prog T H (.fn 37) [.p (.agg [.sl none 1 (List.map rowI a0.Ranks)]), .p (.agg [iv a1.States, .sl none 1 (List.map rowI a1.Final), .sl none 3 (List.map row_Rule a1.Rules)])] [] = some (.ret (.p (.tup [.sl none 1 (List.map rowI r.1), iv r.2])), []) := by
 refine Sat.fn fun Q hQ => ?_
 unfold empty_Sizes at h
 rw [call37]
 conv => arg 1; arg 7; unfold S22.c37 Try.f37; simp only [Option.getD_some]
 obtain ⟨v1, e_v1, h⟩ := ob h
 have e_v1c := spec28 a0 a1 v1 e_v1
 by_cases c1 : v1 = true
 ·have h := iteT h c1
  obtain ⟨v2, e_v2, h⟩ := ob h
  have e_v2c := spec69 a1 v2 e_v2
  simp only [go_sem, e_v1c, c1, e_v2c]
  injection h with h; subst h
  exact Sat.ok hQ
 ·have h := iteF h c1
  have c1 := eq_false_of_ne_true c1
  simp only [go_sem, e_v1c, c1]
  injection h with h; subst h
  exact Sat.ok hQ
def tree_Size : Nat → Tree → Option Int
 | 0, _ => none
 | n + 1, a0 =>
  rangeL a0.Kids 1 (fun k1 i1 x1 (s1 : Int) n1 =>
   (tree_Size n x1).bind fun v1 =>
   n1 (w64 (s1 + v1))) fun s1 =>
  some s1
theorem spec38 : ∀ (n : Nat), (∀ (a0 : Tree) (r : Int), tree_Size n a0 = some r →
 call Try.prog T H (.fn 38) [.p (.agg [iv a0.Sym, .sl none 2 (List.map row_Tree a0.Kids)])] [] = some (.ret (.p (iv r)), [])) := by
 intro n
 induction n with
 | zero => intro a0 r h; cases h
 | succ n ih =>
  intro a0 r h
  refine Sat.fn fun Q hQ => ?_
  rw [tree_Size] at h
  rw [call38]
  conv => arg 1; arg 7; unfold S22.c38 Try.f38; simp only [Option.getD_some]
  simp only [go_sem]
  refine run_rangeL (c := L38_0) (live := [3, 7, 8, 9]) (by simp only [go_sem]) (M := fun i1 (s1 : Int) => [(3, .p (iv s1)), (7, .p (.sl none 2 (List.map row_Tree a0.Kids))), (8, .p (iv (a0.Kids.length : Int))), (9, .p (iv (i1 : Int)))]) (Z := fun i1 (s1 : Int) => [.cells [.p (iv a0.Sym), .p (.sl none 2 (List.map row_Tree a0.Kids))]]) (N := fun (s1 : Int) => ⟨[(3, .p (iv s1))], [.cells [.p (iv a0.Sym), .p (.sl none 2 (List.map row_Tree a0.Kids))]], [], none, false⟩) h rfl rfl (fun _ _ => rfl) ?_ ?_ ?_
  ·intro s1 h
   try dsimp only at h ⊢
   simp only [go_sem]
   injection h with h; subst h
   exact Sat.ok hQ
  ·intro K1 s1 hb1 he1
   try dsimp only
   conv => arg 1; arg 7; unfold L38_0 loopAt S22.c38 Try.f38; simp only [loopIn, Option.getD_some, if_true]
   simp only [go_sem, he1]
   exact hb1
  ·intro K1 k1 i1 x1 s1 n1 hR1 hE1 hb1 hx1 hi1 hw1 ih1 h
   try dsimp only at h ⊢
   conv => arg 1; arg 7; unfold L38_0 loopAt S22.c38 Try.f38; simp only [loopIn, Option.getD_some, if_true]
   obtain ⟨v1, e_v1, h⟩ := ob h
   have e_v1c := ih x1 v1 e_v1
   simp only [go_sem, hx1, hi1, hw1, e_v1c, hR1, hE1]
   exact ih1 (w64 (s1 + v1)) h
def repair_within (a0 : Rule) (a1 : Tree) (a2 : List (List repair_holes)) : Option (repair_holes × Bool) :=
 if a0.Sym = a1.Sym then
  rangeL a0.From (0, ([] : List (List Int))) (fun k3 i3 x3 (s3 : Int × (List (List Int))) n3 =>
   (a2[i3]?).bind fun v1 =>
   (idx v1 x3).bind fun v2 =>
   if v2.ok = true then
    rangeL v2.list s3.2 (fun k4 i4 x4 (s4 : (List (List Int))) n4 =>
     (app 8 [(i3 : Int)] x4).bind fun v3 =>
     (app 24 s4 [v3]).bind fun v4 =>
     n4 v4) fun s4 =>
    n3 (w64 (s3.1 + v2.gone), s4)
   else
    some ((repair_holes.mk false 0 ([] : List (List Int))), false)) fun s3 =>
  some ((repair_holes.mk true s3.1 s3.2), true)
 else
  some ((repair_holes.mk false 0 ([] : List (List Int))), false)
theorem spec39 (a0 : Rule) (a1 : Tree) (a2 : List (List repair_holes)) (r : repair_holes × Bool) (h : repair_within a0 a1 a2 = some r) :
 call Try.prog T H (.fn 39) [.p (.agg [iv a0.Sym, .sl none 1 (List.map rowI a0.From), iv a0.To]), .p (.agg [iv a1.Sym, .sl none 2 (List.map row_Tree a1.Kids)]), .p (.sl none 1 (List.map (rowL 3 row_repair_holes) a2))] [] = some (.ret (.p (.tup [.agg [bv r.1.ok, iv r.1.gone, .sl none 1 (List.map (rowL 1 rowI) r.1.list)], bv r.2])), []) := by
 refine Sat.fn fun Q hQ => ?_
 unfold repair_within at h
 rw [call39]
 conv => arg 1; arg 7; unfold S22.c39 Try.f39; simp only [Option.getD_some]
 by_cases c1 : a0.Sym = a1.Sym
 ·have h := iteT h c1
  have c1b : (a0.Sym != a1.Sym) = false := bneF c1
  simp only [go_sem, c1b]
  refine run_rangeL (c := L39_0) (live := [2, 6, 8, 22, 23, 24]) (by simp only [go_sem]) (M := fun i3 (s3 : Int × (List (List Int))) => [(2, .p (.sl none 1 (List.map (rowL 3 row_repair_holes) a2))), (6, .ptr 2 0), (8, .ptr 3 0), (22, .p (.sl none 1 (List.map rowI a0.From))), (23, .p (iv (a0.From.length : Int))), (24, .p (iv (i3 : Int)))]) (Z := fun i3 (s3 : Int × (List (List Int))) => [.cells [.p (iv a0.Sym), .p (.sl none 1 (List.map rowI a0.From)), .p (iv a0.To)], .cells [.p (iv a1.Sym), .p (.sl none 2 (List.map row_Tree a1.Kids))], .cells [.p (bv false), .p (iv 0), .p (.sl none 1 [])], .cells [.p (bv true), .p (iv s3.1), .own 1 (List.map (rowL 1 rowI) s3.2)]]) (N := fun (s3 : Int × (List (List Int))) => ⟨[(6, .ptr 2 0), (8, .ptr 3 0)], [.cells [.p (iv a0.Sym), .p (.sl none 1 (List.map rowI a0.From)), .p (iv a0.To)], .cells [.p (iv a1.Sym), .p (.sl none 2 (List.map row_Tree a1.Kids))], .cells [.p (bv false), .p (iv 0), .p (.sl none 1 [])], .cells [.p (bv true), .p (iv s3.1), .own 1 (List.map (rowL 1 rowI) s3.2)]], [], none, false⟩) h rfl rfl (fun _ _ => rfl) ?_ ?_ ?_
  ·intro s3 h
   try dsimp only at h ⊢
   simp only [go_sem]
   injection h with h; subst h
   exact Sat.ok hQ
  ·intro K3 s3 hb3 he3
   try dsimp only
   conv => arg 1; arg 7; unfold L39_0 loopAt S22.c39 Try.f39; simp only [loopIn, Option.getD_some, if_true]
   simp only [go_sem, he3]
   exact hb3
  ·intro K3 k3 i3 x3 s3 n3 hR3 hE3 hb3 hx3 hi3 hw3 ih3 h
   try dsimp only at h ⊢
   conv => arg 1; arg 7; unfold L39_0 loopAt S22.c39 Try.f39; simp only [loopIn, Option.getD_some, if_true]
   obtain ⟨v1, e_v1, h⟩ := ob h
   obtain ⟨v2, e_v2, h⟩ := ob h
   obtain ⟨e_v2a, e_v2b⟩ := idx_some e_v2
   by_cases c2 : v2.ok = true
   ·have h := iteT h c2
    simp only [go_sem, hx3, hi3, hw3, e_v1, e_v2a, e_v2b, c2, hR3, hE3]
    refine run_rangeL (c := L39_2) (live := [2, 6, 8, 9, 22, 23, 24, 58, 59, 60]) (by simp only [go_sem]) (M := fun i4 (s4 : (List (List Int))) => [(2, .p (.sl none 1 (List.map (rowL 3 row_repair_holes) a2))), (6, .ptr 2 0), (8, .ptr 3 0), (9, .p (iv (i3 : Int))), (22, .p (.sl none 1 (List.map rowI a0.From))), (23, .p (iv (a0.From.length : Int))), (24, .p (iv (i3 : Int))), (58, .p (.sl none 1 (List.map (rowL 1 rowI) v2.list))), (59, .p (iv (v2.list.length : Int))), (60, .p (iv (i4 : Int)))]) (Z := fun i4 (s4 : (List (List Int))) => [.cells [.p (iv a0.Sym), .p (.sl none 1 (List.map rowI a0.From)), .p (iv a0.To)], .cells [.p (iv a1.Sym), .p (.sl none 2 (List.map row_Tree a1.Kids))], .cells [.p (bv false), .p (iv 0), .p (.sl none 1 [])], .cells [.p (bv true), .p (iv (w64 (s3.1 + v2.gone))), .own 1 (List.map (rowL 1 rowI) s4)]]) (N := fun (s4 : (List (List Int))) => ⟨[(2, .p (.sl none 1 (List.map (rowL 3 row_repair_holes) a2))), (6, .ptr 2 0), (8, .ptr 3 0), (22, .p (.sl none 1 (List.map rowI a0.From))), (23, .p (iv (a0.From.length : Int))), (24, .p (iv (i3 : Int)))], [.cells [.p (iv a0.Sym), .p (.sl none 1 (List.map rowI a0.From)), .p (iv a0.To)], .cells [.p (iv a1.Sym), .p (.sl none 2 (List.map row_Tree a1.Kids))], .cells [.p (bv false), .p (iv 0), .p (.sl none 1 [])], .cells [.p (bv true), .p (iv (w64 (s3.1 + v2.gone))), .own 1 (List.map (rowL 1 rowI) s4)]], [], none, false⟩) h rfl rfl (fun _ _ => rfl) ?_ ?_ ?_
    ·intro s4 h
     try dsimp only at h ⊢
     simp only [go_sem, hw3, hR3, hE3]
     exact ih3 (w64 (s3.1 + v2.gone), s4) h
    ·intro K4 s4 hb4 he4
     try dsimp only
     conv => arg 1; arg 7; unfold L39_2 loopAt S22.c39 Try.f39; simp only [loopIn, Option.getD_some, if_true]
     simp only [go_sem, he4]
     exact hb4
    ·intro K4 k4 i4 x4 s4 n4 hR4 hE4 hb4 hx4 hi4 hw4 ih4 h
     try dsimp only at h ⊢
     conv => arg 1; arg 7; unfold L39_2 loopAt S22.c39 Try.f39; simp only [loopIn, Option.getD_some, if_true]
     obtain ⟨v3, e_v3, h⟩ := ob h
     have e_v3a : boundOk (1 + x4.length) 8 = true := bnd_of (by have := (app_some e_v3).1; simpa using this) (by decide)
     have e_v3b : [[iv (i3 : Int)]] ++ (List.map rowI x4) = List.map rowI v3 := by rw [(app_some e_v3).2]; simp [rowI]
     obtain ⟨v4, e_v4, h⟩ := ob h
     have e_v4a : boundOk (s4.length + 1) 24 = true := bnd_of (by have := (app_some e_v4).1; simpa using this) (by decide)
     have e_v4b : (List.map (rowL 1 rowI) s4) ++ [[.sl none 1 (List.map rowI v3)]] = List.map (rowL 1 rowI) v4 := by rw [(app_some e_v4).2]; simp [rowI, rowL]
     simp only [go_sem, hx4, hi4, hw4, e_v3a, e_v3b, e_v4a, e_v4b, hw3, hR3, hE3, hR4, hE4]
     exact ih4 v4 h
   ·have h := iteF h c2
    have c2 := eq_false_of_ne_true c2
    simp only [go_sem, hx3, hi3, hw3, e_v1, e_v2a, e_v2b, c2, hR3, hE3]
    injection h with h; subst h
    exact Sat.ok hQ
 ·have h := iteF h c1
  have c1b : (a0.Sym != a1.Sym) = true := bneT c1
  simp only [go_sem, c1b]
  injection h with h; subst h
  exact Sat.ok hQ
def repair_within_xxq (a0 : Rule) (a1 : Tree) (a2 : List (List repair_holes)) (l2 : Nat) (o2 : Nat) : Option (repair_holes × Bool) :=
 if a0.Sym = a1.Sym then
  rangeL a0.From (0, ([] : List (List Int))) (fun k3 i3 x3 (s3 : Int × (List (List Int))) n3 =>
   (idxS o2 l2 a2 (i3 : Int)).bind fun v1 =>
   (idx v1 x3).bind fun v2 =>
   if v2.ok = true then
    rangeL v2.list s3.2 (fun k4 i4 x4 (s4 : (List (List Int))) n4 =>
     (app 8 [(i3 : Int)] x4).bind fun v3 =>
     (app 24 s4 [v3]).bind fun v4 =>
     n4 v4) fun s4 =>
    n3 (w64 (s3.1 + v2.gone), s4)
   else
    some ((repair_holes.mk false 0 ([] : List (List Int))), false)) fun s3 =>
  some ((repair_holes.mk true s3.1 s3.2), true)
 else
  some ((repair_holes.mk false 0 ([] : List (List Int))), false)
theorem spec39_xxq (g2 : Nat) (a0 : Rule) (a1 : Tree) (a2 : List (List repair_holes)) (l2 : Nat) (o2 : Nat) (r : repair_holes × Bool) (h : repair_within_xxq a0 a1 a2 l2 o2 = some r) :
 call Try.prog T H (.fn 39) [.p (.agg [iv a0.Sym, .sl none 1 (List.map rowI a0.From), iv a0.To]), .p (.agg [iv a1.Sym, .sl none 2 (List.map row_Tree a1.Kids)]), .ms 0 g2 1 o2 l2] [.arr g2 1 (List.map (rowA (rowL 3 row_repair_holes)) a2)] = some (.ret (.p (.tup [.agg [bv r.1.ok, iv r.1.gone, .sl none 1 (List.map (rowL 1 rowI) r.1.list)], bv r.2])), [.arr g2 1 (List.map (rowA (rowL 3 row_repair_holes)) a2)]) := by
 refine Sat.fn fun Q hQ => ?_
 unfold repair_within_xxq at h
 rw [call39]
 conv => arg 1; arg 7; unfold S22.c39 Try.f39; simp only [Option.getD_some]
 by_cases c1 : a0.Sym = a1.Sym
 ·have h := iteT h c1
  have c1b : (a0.Sym != a1.Sym) = false := bneF c1
  simp only [go_sem, c1b]
  refine run_rangeL (c := L39_0) (live := [2, 6, 8, 22, 23, 24]) (by simp only [go_sem]) (M := fun i3 (s3 : Int × (List (List Int))) => [(2, .ms 0 g2 1 o2 l2), (6, .ptr 3 0), (8, .ptr 4 0), (22, .p (.sl none 1 (List.map rowI a0.From))), (23, .p (iv (a0.From.length : Int))), (24, .p (iv (i3 : Int)))]) (Z := fun i3 (s3 : Int × (List (List Int))) => [.arr g2 1 (List.map (rowA (rowL 3 row_repair_holes)) a2), .cells [.p (iv a0.Sym), .p (.sl none 1 (List.map rowI a0.From)), .p (iv a0.To)], .cells [.p (iv a1.Sym), .p (.sl none 2 (List.map row_Tree a1.Kids))], .cells [.p (bv false), .p (iv 0), .p (.sl none 1 [])], .cells [.p (bv true), .p (iv s3.1), .own 1 (List.map (rowL 1 rowI) s3.2)]]) (N := fun (s3 : Int × (List (List Int))) => ⟨[(6, .ptr 3 0), (8, .ptr 4 0)], [.arr g2 1 (List.map (rowA (rowL 3 row_repair_holes)) a2), .cells [.p (iv a0.Sym), .p (.sl none 1 (List.map rowI a0.From)), .p (iv a0.To)], .cells [.p (iv a1.Sym), .p (.sl none 2 (List.map row_Tree a1.Kids))], .cells [.p (bv false), .p (iv 0), .p (.sl none 1 [])], .cells [.p (bv true), .p (iv s3.1), .own 1 (List.map (rowL 1 rowI) s3.2)]], [], none, false⟩) h rfl rfl (fun _ _ => rfl) ?_ ?_ ?_
  ·intro s3 h
   try dsimp only at h ⊢
   simp only [go_sem]
   injection h with h; subst h
   exact Sat.ok hQ
  ·intro K3 s3 hb3 he3
   try dsimp only
   conv => arg 1; arg 7; unfold L39_0 loopAt S22.c39 Try.f39; simp only [loopIn, Option.getD_some, if_true]
   simp only [go_sem, he3]
   exact hb3
  ·intro K3 k3 i3 x3 s3 n3 hR3 hE3 hb3 hx3 hi3 hw3 ih3 h
   try dsimp only at h ⊢
   conv => arg 1; arg 7; unfold L39_0 loopAt S22.c39 Try.f39; simp only [loopIn, Option.getD_some, if_true]
   obtain ⟨v1, e_v1, h⟩ := ob h
   obtain ⟨e_v1a, e_v1b, e_v1d⟩ := idxS_some e_v1
   simp only [Int.toNat_natCast] at e_v1b
   simp only [Int.toNat_natCast] at e_v1d
   obtain ⟨v2, e_v2, h⟩ := ob h
   obtain ⟨e_v2a, e_v2b⟩ := idx_some e_v2
   by_cases c2 : v2.ok = true
   ·have h := iteT h c2
    simp only [go_sem, hx3, hi3, hw3, e_v1b, e_v1d, e_v2a, e_v2b, c2, hR3, hE3]
    refine run_rangeL (c := L39_2) (live := [2, 6, 8, 9, 22, 23, 24, 58, 59, 60]) (by simp only [go_sem]) (M := fun i4 (s4 : (List (List Int))) => [(2, .ms 0 g2 1 o2 l2), (6, .ptr 3 0), (8, .ptr 4 0), (9, .p (iv (i3 : Int))), (22, .p (.sl none 1 (List.map rowI a0.From))), (23, .p (iv (a0.From.length : Int))), (24, .p (iv (i3 : Int))), (58, .p (.sl none 1 (List.map (rowL 1 rowI) v2.list))), (59, .p (iv (v2.list.length : Int))), (60, .p (iv (i4 : Int)))]) (Z := fun i4 (s4 : (List (List Int))) => [.arr g2 1 (List.map (rowA (rowL 3 row_repair_holes)) a2), .cells [.p (iv a0.Sym), .p (.sl none 1 (List.map rowI a0.From)), .p (iv a0.To)], .cells [.p (iv a1.Sym), .p (.sl none 2 (List.map row_Tree a1.Kids))], .cells [.p (bv false), .p (iv 0), .p (.sl none 1 [])], .cells [.p (bv true), .p (iv (w64 (s3.1 + v2.gone))), .own 1 (List.map (rowL 1 rowI) s4)]]) (N := fun (s4 : (List (List Int))) => ⟨[(2, .ms 0 g2 1 o2 l2), (6, .ptr 3 0), (8, .ptr 4 0), (22, .p (.sl none 1 (List.map rowI a0.From))), (23, .p (iv (a0.From.length : Int))), (24, .p (iv (i3 : Int)))], [.arr g2 1 (List.map (rowA (rowL 3 row_repair_holes)) a2), .cells [.p (iv a0.Sym), .p (.sl none 1 (List.map rowI a0.From)), .p (iv a0.To)], .cells [.p (iv a1.Sym), .p (.sl none 2 (List.map row_Tree a1.Kids))], .cells [.p (bv false), .p (iv 0), .p (.sl none 1 [])], .cells [.p (bv true), .p (iv (w64 (s3.1 + v2.gone))), .own 1 (List.map (rowL 1 rowI) s4)]], [], none, false⟩) h rfl rfl (fun _ _ => rfl) ?_ ?_ ?_
    ·intro s4 h
     try dsimp only at h ⊢
     simp only [go_sem, hw3, hR3, hE3]
     exact ih3 (w64 (s3.1 + v2.gone), s4) h
    ·intro K4 s4 hb4 he4
     try dsimp only
     conv => arg 1; arg 7; unfold L39_2 loopAt S22.c39 Try.f39; simp only [loopIn, Option.getD_some, if_true]
     simp only [go_sem, he4]
     exact hb4
    ·intro K4 k4 i4 x4 s4 n4 hR4 hE4 hb4 hx4 hi4 hw4 ih4 h
     try dsimp only at h ⊢
     conv => arg 1; arg 7; unfold L39_2 loopAt S22.c39 Try.f39; simp only [loopIn, Option.getD_some, if_true]
     obtain ⟨v3, e_v3, h⟩ := ob h
     have e_v3a : boundOk (1 + x4.length) 8 = true := bnd_of (by have := (app_some e_v3).1; simpa using this) (by decide)
     have e_v3b : [[iv (i3 : Int)]] ++ (List.map rowI x4) = List.map rowI v3 := by rw [(app_some e_v3).2]; simp [rowI]
     obtain ⟨v4, e_v4, h⟩ := ob h
     have e_v4a : boundOk (s4.length + 1) 24 = true := bnd_of (by have := (app_some e_v4).1; simpa using this) (by decide)
     have e_v4b : (List.map (rowL 1 rowI) s4) ++ [[.sl none 1 (List.map rowI v3)]] = List.map (rowL 1 rowI) v4 := by rw [(app_some e_v4).2]; simp [rowI, rowL]
     simp only [go_sem, hx4, hi4, hw4, e_v3a, e_v3b, e_v4a, e_v4b, hw3, hR3, hE3, hR4, hE4]
     exact ih4 v4 h
   ·have h := iteF h c2
    have c2 := eq_false_of_ne_true c2
    simp only [go_sem, hx3, hi3, hw3, e_v1b, e_v1d, e_v2a, e_v2b, c2, hR3, hE3]
    injection h with h; subst h
    exact Sat.ok hQ
 ·have h := iteF h c1
  have c1b : (a0.Sym != a1.Sym) = true := bneT c1
  simp only [go_sem, c1b]
  injection h with h; subst h
  exact Sat.ok hQ
def slices_Compare_Lint_int (a0 : List Int) (a1 : List Int) : Option Int :=
 rangeL a0 () (fun k1 i1 x1 (s1 : Unit) n1 =>
  if (a1.length : Int) ≤ (i1 : Int) then
   some 1
  else
   (a1[i1]?).bind fun v1 =>
   (cmp_Compare_int x1 v1).bind fun v2 =>
   if v2 = 0 then
    n1 ()
   else
    some v2) fun s1 =>
 if (a0.length : Int) < (a1.length : Int) then
  some (-1)
 else
  some 0
theorem spec72 (a0 : List Int) (a1 : List Int) (r : Int) (h : slices_Compare_Lint_int a0 a1 = some r) :
 call Try.prog T H (.fn 72) [.p (.sl none 1 (List.map rowI a0)), .p (.sl none 1 (List.map rowI a1))] [] = some (.ret (.p (iv r)), []) := by
 refine Sat.fn fun Q hQ => ?_
 unfold slices_Compare_Lint_int at h
 rw [call72]
 conv => arg 1; arg 7; unfold S22.c72 Try.f72; simp only [Option.getD_some]
 simp only [go_sem]
 refine run_rangeL (c := L72_0) (live := [0, 1, 9, 10, 11]) (by simp only [go_sem]) (M := fun i1 (s1 : Unit) => [(0, .p (.sl none 1 (List.map rowI a0))), (1, .p (.sl none 1 (List.map rowI a1))), (9, .p (.sl none 1 (List.map rowI a0))), (10, .p (iv (a0.length : Int))), (11, .p (iv (i1 : Int)))]) (Z := fun i1 (s1 : Unit) => []) (N := fun (s1 : Unit) => ⟨[(0, .p (.sl none 1 (List.map rowI a0))), (1, .p (.sl none 1 (List.map rowI a1)))], [], [], none, false⟩) h rfl rfl (fun _ _ => rfl) ?_ ?_ ?_
 ·intro s1 h
  try dsimp only at h ⊢
  by_cases c1 : (a0.length : Int) < (a1.length : Int)
  ·have h := iteT h c1
   simp only [go_sem, c1]
   injection h with h; subst h
   exact Sat.ok hQ
  ·have h := iteF h c1
   simp only [go_sem, c1]
   injection h with h; subst h
   exact Sat.ok hQ
 ·intro K1 s1 hb1 he1
  try dsimp only
  conv => arg 1; arg 7; unfold L72_0 loopAt S22.c72 Try.f72; simp only [loopIn, Option.getD_some, if_true]
  simp only [go_sem, he1]
  exact hb1
 ·intro K1 k1 i1 x1 s1 n1 hR1 hE1 hb1 hx1 hi1 hw1 ih1 h
  try dsimp only at h ⊢
  conv => arg 1; arg 7; unfold L72_0 loopAt S22.c72 Try.f72; simp only [loopIn, Option.getD_some, if_true]
  by_cases c2 : (a1.length : Int) ≤ (i1 : Int)
  ·have h := iteT h c2
   simp only [go_sem, hx1, hi1, hw1, c2, hR1, hE1]
   injection h with h; subst h
   exact Sat.ok hQ
  ·have h := iteF h c2
   obtain ⟨v1, e_v1, h⟩ := ob h
   obtain ⟨v2, e_v2, h⟩ := ob h
   have e_v2c := spec95 x1 v1 v2 e_v2
   by_cases c3 : v2 = 0
   ·have h := iteT h c3
    have c3b : (v2 != 0) = false := bneF c3
    simp only [go_sem, hx1, hi1, hw1, c2, e_v1, e_v2c, c3b, hR1, hE1]
    exact ih1 () h
   ·have h := iteF h c3
    have c3b : (v2 != 0) = true := bneT c3
    simp only [go_sem, hx1, hi1, hw1, c2, e_v1, e_v2c, c3b, hR1, hE1]
    injection h with h; subst h
    exact Sat.ok hQ
def repair_fewer_1 (a0 : List Int) (a1 : List Int) : Option Int :=
 (slices_Compare_Lint_int a0 a1).bind fun v1 =>
 some v1
theorem spec71 (a0 : List Int) (a1 : List Int) (r : Int) (h : repair_fewer_1 a0 a1 = some r) :
 call Try.prog T H (.fn 71) [.p (.sl none 1 (List.map rowI a0)), .p (.sl none 1 (List.map rowI a1))] [] = some (.ret (.p (iv r)), []) := by
 refine Sat.fn fun Q hQ => ?_
 unfold repair_fewer_1 at h
 rw [call71]
 conv => arg 1; arg 7; unfold S22.c71 Try.f71; simp only [Option.getD_some]
 obtain ⟨v1, e_v1, h⟩ := ob h
 have e_v1c := spec72 a0 a1 v1 e_v1
 simp only [go_sem, e_v1c]
 injection h with h; subst h
 exact Sat.ok hQ
def repair_fewer (a0 : repair_holes) (a1 : repair_holes) : Option Bool :=
 if a1.ok = true then
  if a0.gone = a1.gone then
   if (a0.list.length : Int) = (a1.list.length : Int) then
    jn (fun (u1 : Int) =>
     some (decide (u1 < 0))) fun j1 =>
    rangeL a0.list () (fun k1 i1 x1 (s1 : Unit) n1 =>
     if (a1.list.length : Int) ≤ (i1 : Int) then
      j1 1
     else
      (a1.list[i1]?).bind fun v1 =>
      (repair_fewer_1 x1 v1).bind fun v2 =>
      if v2 = 0 then
       n1 ()
      else
       j1 v2) fun s1 =>
    if (a0.list.length : Int) < (a1.list.length : Int) then
     j1 (-1)
    else
     j1 0
   else
    some (decide ((a0.list.length : Int) < (a1.list.length : Int)))
  else
   some (decide (a0.gone < a1.gone))
 else
  some true
theorem spec40 (a0 : repair_holes) (a1 : repair_holes) (r : Bool) (h : repair_fewer a0 a1 = some r) :
 call Try.prog T H (.fn 40) [.p (.agg [bv a0.ok, iv a0.gone, .sl none 1 (List.map (rowL 1 rowI) a0.list)]), .p (.agg [bv a1.ok, iv a1.gone, .sl none 1 (List.map (rowL 1 rowI) a1.list)])] [] = some (.ret (.p (bv r)), []) := by
 refine Sat.fn fun Q hQ => ?_
 unfold repair_fewer at h
 rw [call40]
 conv => arg 1; arg 7; unfold S22.c40 Try.f40; simp only [Option.getD_some]
 by_cases c1 : a1.ok = true
 ·have h := iteT h c1
  by_cases c2 : a0.gone = a1.gone
  ·have h := iteT h c2
   have c2b : (a0.gone != a1.gone) = false := bneF c2
   by_cases c3 : (a0.list.length : Int) = (a1.list.length : Int)
   ·have h := iteT h c3
    have c3b : ((a0.list.length : Int) != (a1.list.length : Int)) = false := bneF c3
    simp only [go_sem, c1, c2b, c3b]
    refine Sat.callj (V := fun (u1 : Int) => .p (iv u1)) (Z := fun (u1 : Int) => [.cells [.p (bv a0.ok), .p (iv a0.gone), .p (.sl none 1 (List.map (rowL 1 rowI) a0.list))], .cells [.p (bv true), .p (iv a1.gone), .p (.sl none 1 (List.map (rowL 1 rowI) a1.list))]]) h ?_ ?_
    ·intro u1 h
     try dsimp only at h ⊢
     simp only [go_sem]
     injection h with h; subst h
     exact Sat.ok hQ
    ·intro j1 h
     rw [call70]
     conv => arg 1; arg 7; unfold S22.c70 Try.f70; simp only [Option.getD_some]
     simp only [go_sem]
     refine run_rangeL (c := L70_0) (live := [0, 1, 2, 11, 12, 13]) (by simp only [go_sem]) (M := fun i1 (s1 : Unit) => [(0, .p (.sl none 1 (List.map (rowL 1 rowI) a0.list))), (1, .p (.sl none 1 (List.map (rowL 1 rowI) a1.list))), (2, .p (.fn 71)), (11, .p (.sl none 1 (List.map (rowL 1 rowI) a0.list))), (12, .p (iv (a0.list.length : Int))), (13, .p (iv (i1 : Int)))]) (Z := fun i1 (s1 : Unit) => [.cells [.p (bv a0.ok), .p (iv a0.gone), .p (.sl none 1 (List.map (rowL 1 rowI) a0.list))], .cells [.p (bv true), .p (iv a1.gone), .p (.sl none 1 (List.map (rowL 1 rowI) a1.list))]]) (N := fun (s1 : Unit) => ⟨[(0, .p (.sl none 1 (List.map (rowL 1 rowI) a0.list))), (1, .p (.sl none 1 (List.map (rowL 1 rowI) a1.list)))], [.cells [.p (bv a0.ok), .p (iv a0.gone), .p (.sl none 1 (List.map (rowL 1 rowI) a0.list))], .cells [.p (bv true), .p (iv a1.gone), .p (.sl none 1 (List.map (rowL 1 rowI) a1.list))]], [], none, false⟩) h rfl rfl (fun _ _ => rfl) ?_ ?_ ?_
     ·intro s1 h
      try dsimp only at h ⊢
      by_cases c4 : (a0.list.length : Int) < (a1.list.length : Int)
      ·have h := iteT h c4
       simp only [go_sem, c4]
       exact Sat.ok ⟨(-1), rfl, h⟩
      ·have h := iteF h c4
       simp only [go_sem, c4]
       exact Sat.ok ⟨0, rfl, h⟩
     ·intro K1 s1 hb1 he1
      try dsimp only
      conv => arg 1; arg 7; unfold L70_0 loopAt S22.c70 Try.f70; simp only [loopIn, Option.getD_some, if_true]
      simp only [go_sem, he1]
      exact hb1
     ·intro K1 k1 i1 x1 s1 n1 hR1 hE1 hb1 hx1 hi1 hw1 ih1 h
      try dsimp only at h ⊢
      conv => arg 1; arg 7; unfold L70_0 loopAt S22.c70 Try.f70; simp only [loopIn, Option.getD_some, if_true]
      by_cases c5 : (a1.list.length : Int) ≤ (i1 : Int)
      ·have h := iteT h c5
       simp only [go_sem, hx1, hi1, hw1, c5, hR1, hE1]
       exact Sat.ok ⟨1, rfl, h⟩
      ·have h := iteF h c5
       obtain ⟨v1, e_v1, h⟩ := ob h
       obtain ⟨v2, e_v2, h⟩ := ob h
       have e_v2c := spec71 x1 v1 v2 e_v2
       by_cases c6 : v2 = 0
       ·have h := iteT h c6
        have c6b : (v2 != 0) = false := bneF c6
        simp only [go_sem, hx1, hi1, hw1, c5, e_v1, e_v2c, c6b, hR1, hE1]
        exact ih1 () h
       ·have h := iteF h c6
        have c6b : (v2 != 0) = true := bneT c6
        simp only [go_sem, hx1, hi1, hw1, c5, e_v1, e_v2c, c6b, hR1, hE1]
        exact Sat.ok ⟨v2, rfl, h⟩
   ·have h := iteF h c3
    have c3b : ((a0.list.length : Int) != (a1.list.length : Int)) = true := bneT c3
    simp only [go_sem, c1, c2b, c3b]
    injection h with h; subst h
    exact Sat.ok hQ
  ·have h := iteF h c2
   have c2b : (a0.gone != a1.gone) = true := bneT c2
   simp only [go_sem, c1, c2b]
   injection h with h; subst h
   exact Sat.ok hQ
 ·have h := iteF h c1
  have c1 := eq_false_of_ne_true c1
  simp only [go_sem, c1]
  injection h with h; subst h
  exact Sat.ok hQ
def ref06_plus (a0 : Int) (a1 : Int) : Option Int :=
 if (w64 (4611686018427387904 - a1)) < a0 then
  some 4611686018427387904
 else
  some (w64 (a0 + a1))
def ref06_Smallest (n : Nat) (a0 : Automaton) : Option (List Int) :=
 (mkz 8 a0.States a0.States 0).bind fun v1 =>
 whileL n (true, v1) (fun k9 (s9 : Bool × (List Int)) n9 =>
  if s9.1 = true then
   rangeL a0.Rules (false, s9.2) (fun k12 i12 x12 (s12 : Bool × (List Int)) n12 =>
    rangeL x12.From 1 (fun k13 i13 x13 (s13 : Int) n13 =>
     (idxM ((a0.States).toNat) s12.2 x13).bind fun v4 =>
     if v4 = 0 then
      k13 0
     else
      (ref06_plus s13 v4).bind fun v5 =>
      n13 v5) fun s13 =>
    if 0 < s13 then
     (idxM ((a0.States).toNat) s12.2 x12.To).bind fun v3 =>
     if v3 = 0 then
      n12 (true, (List.set s12.2 ((x12.To).toNat) s13))
     else
      if s13 < v3 then
       n12 (true, (List.set s12.2 ((x12.To).toNat) s13))
      else
       n12 (s12.1, s12.2)
    else
     n12 (s12.1, s12.2)) fun s12 =>
   n9 (s12.1, s12.2)
  else
   k9 (false, s9.2)) fun s9 =>
 (tkM ((a0.States).toNat) s9.2).bind fun v2 =>
 some v2
def repair_fits_1 (a0 : Int) (a1 : Int) : Option Bool :=
 if a1 ≤ a0 then
  some (decide (a0 ≤ 1000))
 else
  some false
theorem spec75 (a0 : Int) (a1 : Int) (r : Bool) (h : repair_fits_1 a0 a1 = some r) :
 call Try.prog T H (.fn 75) [.p (iv a0), .p (iv a1)] [] = some (.ret (.p (bv r)), []) := by
 refine Sat.fn fun Q hQ => ?_
 unfold repair_fits_1 at h
 rw [call75]
 conv => arg 1; arg 7; unfold S22.c75 Try.f75; simp only [Option.getD_some]
 by_cases c1 : a1 ≤ a0
 ·have h := iteT h c1
  simp only [go_sem, c1]
  injection h with h; subst h
  exact Sat.ok hQ
 ·have h := iteF h c1
  simp only [go_sem, c1]
  injection h with h; subst h
  exact Sat.ok hQ
def repair_fits (a0 : repair_Weights) : Option Bool :=
 (repair_fits_1 a0.Relabel (-1)).bind fun v1 =>
 if v1 = true then
  (repair_fits_1 a0.Remove 0).bind fun v2 =>
  if v2 = true then
   (repair_fits_1 a0.Insert 0).bind fun v3 =>
   some v3
  else
   some false
 else
  some false
theorem spec45 (a0 : repair_Weights) (r : Bool) (h : repair_fits a0 = some r) :
 call Try.prog T H (.fn 45) [.p (.agg [iv a0.Relabel, iv a0.Remove, iv a0.Insert])] [] = some (.ret (.p (bv r)), []) := by
 refine Sat.fn fun Q hQ => ?_
 unfold repair_fits at h
 rw [call45]
 conv => arg 1; arg 7; unfold S22.c45 Try.f45; simp only [Option.getD_some]
 obtain ⟨v1, e_v1, h⟩ := ob h
 have e_v1c : call Try.prog T H (.fn 75) [.p (iv a0.Relabel), .p (iv (-1))] [] = some (.ret (.p (bv v1)), []) := spec75 a0.Relabel (-1) v1 e_v1
 by_cases c1 : v1 = true
 ·have h := iteT h c1
  obtain ⟨v2, e_v2, h⟩ := ob h
  have e_v2c := spec75 a0.Remove 0 v2 e_v2
  by_cases c2 : v2 = true
  ·have h := iteT h c2
   obtain ⟨v3, e_v3, h⟩ := ob h
   have e_v3c := spec75 a0.Insert 0 v3 e_v3
   simp only [go_sem, e_v1c, c1, e_v2c, c2, e_v3c]
   injection h with h; subst h
   exact Sat.ok hQ
  ·have h := iteF h c2
   have c2 := eq_false_of_ne_true c2
   simp only [go_sem, e_v1c, c1, e_v2c, c2]
   injection h with h; subst h
   exact Sat.ok hQ
 ·have h := iteF h c1
  have c1 := eq_false_of_ne_true c1
  simp only [go_sem, e_v1c, c1]
  injection h with h; subst h
  exact Sat.ok hQ
def repair_least_int (a0 : Int) (a1 : Int) : Option Int :=
 if a1 < a0 then
  some a1
 else
  some a0
theorem spec76 (a0 : Int) (a1 : Int) (r : Int) (h : repair_least_int a0 a1 = some r) :
 call Try.prog T H (.fn 76) [.p (iv a0), .p (iv a1)] [] = some (.ret (.p (iv r)), []) := by
 refine Sat.fn fun Q hQ => ?_
 unfold repair_least_int at h
 rw [call76]
 conv => arg 1; arg 7; unfold S22.c76 Try.f76; simp only [Option.getD_some]
 by_cases c1 : a1 < a0
 ·have h := iteT h c1
  simp only [go_sem, c1]
  injection h with h; subst h
  exact Sat.ok hQ
 ·have h := iteF h c1
  simp only [go_sem, c1]
  injection h with h; subst h
  exact Sat.ok hQ
def repair_distance : Nat → Tree → Tree → repair_Weights → Option Int
 | 0, _, _, _ => none
 | n + 1, a0, a1, a2 =>
  (tree_Size n a0).bind fun v1 =>
  (tree_Size n a1).bind fun v2 =>
  if (a0.Kids.length : Int) = (a1.Kids.length : Int) then
   if a0.Sym = a1.Sym then
    rangeL a0.Kids 0 (fun k1 i1 x1 (s1 : Int) n1 =>
     (a1.Kids[i1]?).bind fun v4 =>
     (repair_distance n x1 v4 a2).bind fun v5 =>
     n1 (w64 (s1 + v5))) fun s1 =>
    (repair_least_int (w64 ((w64 (a2.Remove * v1)) + (w64 (a2.Insert * v2)))) s1).bind fun v3 =>
    some v3
   else
    if a2.Relabel < 0 then
     some (w64 ((w64 (a2.Remove * v1)) + (w64 (a2.Insert * v2))))
    else
     rangeL a0.Kids a2.Relabel (fun k2 i2 x2 (s2 : Int) n2 =>
      (a1.Kids[i2]?).bind fun v7 =>
      (repair_distance n x2 v7 a2).bind fun v8 =>
      n2 (w64 (s2 + v8))) fun s2 =>
     (repair_least_int (w64 ((w64 (a2.Remove * v1)) + (w64 (a2.Insert * v2)))) s2).bind fun v6 =>
     some v6
  else
   some (w64 ((w64 (a2.Remove * v1)) + (w64 (a2.Insert * v2))))
theorem spec46 : ∀ (n : Nat), (∀ (a0 : Tree) (a1 : Tree) (a2 : repair_Weights) (r : Int), repair_distance n a0 a1 a2 = some r →
 call Try.prog T H (.fn 46) [.p (.agg [iv a0.Sym, .sl none 2 (List.map row_Tree a0.Kids)]), .p (.agg [iv a1.Sym, .sl none 2 (List.map row_Tree a1.Kids)]), .p (.agg [iv a2.Relabel, iv a2.Remove, iv a2.Insert])] [] = some (.ret (.p (iv r)), [])) := by
 intro n
 induction n with
 | zero => intro a0 a1 a2 r h; cases h
 | succ n ih =>
  intro a0 a1 a2 r h
  refine Sat.fn fun Q hQ => ?_
  rw [repair_distance] at h
  rw [call46]
  conv => arg 1; arg 7; unfold S22.c46 Try.f46; simp only [Option.getD_some]
  obtain ⟨v1, e_v1, h⟩ := ob h
  have e_v1c := spec38 n a0 v1 e_v1
  obtain ⟨v2, e_v2, h⟩ := ob h
  have e_v2c := spec38 n a1 v2 e_v2
  by_cases c1 : (a0.Kids.length : Int) = (a1.Kids.length : Int)
  ·have h := iteT h c1
   have c1b : ((a0.Kids.length : Int) != (a1.Kids.length : Int)) = false := bneF c1
   by_cases c2 : a0.Sym = a1.Sym
   ·have h := iteT h c2
    have c2b : (a0.Sym != a1.Sym) = false := bneF c2
    simp only [go_sem, e_v1c, e_v2c, c1b, c2b]
    refine run_rangeL (c := L46_0) (live := [4, 5, 7, 8, 50, 51, 52]) (by simp only [go_sem]) (M := fun i1 (s1 : Int) => [(4, .ptr 1 0), (5, .ptr 2 0), (7, .p (iv (w64 ((w64 (a2.Remove * v1)) + (w64 (a2.Insert * v2)))))), (8, .p (iv s1)), (50, .p (.sl none 2 (List.map row_Tree a0.Kids))), (51, .p (iv (a0.Kids.length : Int))), (52, .p (iv (i1 : Int)))]) (Z := fun i1 (s1 : Int) => [.cells [.p (iv a0.Sym), .p (.sl none 2 (List.map row_Tree a0.Kids))], .cells [.p (iv a1.Sym), .p (.sl none 2 (List.map row_Tree a1.Kids))], .cells [.p (iv a2.Relabel), .p (iv a2.Remove), .p (iv a2.Insert)]]) (N := fun (s1 : Int) => ⟨[(7, .p (iv (w64 ((w64 (a2.Remove * v1)) + (w64 (a2.Insert * v2)))))), (8, .p (iv s1))], [.cells [.p (iv a0.Sym), .p (.sl none 2 (List.map row_Tree a0.Kids))], .cells [.p (iv a1.Sym), .p (.sl none 2 (List.map row_Tree a1.Kids))], .cells [.p (iv a2.Relabel), .p (iv a2.Remove), .p (iv a2.Insert)]], [], none, false⟩) h rfl rfl (fun _ _ => rfl) ?_ ?_ ?_
    ·intro s1 h
     try dsimp only at h ⊢
     obtain ⟨v3, e_v3, h⟩ := ob h
     have e_v3c : call Try.prog T H (.fn 76) [.p (iv (w64 ((w64 (a2.Remove * v1)) + (w64 (a2.Insert * v2))))), .p (iv s1)] [] = some (.ret (.p (iv v3)), []) := spec76 (w64 ((w64 (a2.Remove * v1)) + (w64 (a2.Insert * v2)))) s1 v3 e_v3
     simp only [go_sem, e_v3c]
     injection h with h; subst h
     exact Sat.ok hQ
    ·intro K1 s1 hb1 he1
     try dsimp only
     conv => arg 1; arg 7; unfold L46_0 loopAt S22.c46 Try.f46; simp only [loopIn, Option.getD_some, if_true]
     simp only [go_sem, he1]
     exact hb1
    ·intro K1 k1 i1 x1 s1 n1 hR1 hE1 hb1 hx1 hi1 hw1 ih1 h
     try dsimp only at h ⊢
     conv => arg 1; arg 7; unfold L46_0 loopAt S22.c46 Try.f46; simp only [loopIn, Option.getD_some, if_true]
     obtain ⟨v4, e_v4, h⟩ := ob h
     obtain ⟨v5, e_v5, h⟩ := ob h
     have e_v5c := ih x1 v4 a2 v5 e_v5
     simp only [go_sem, hx1, hi1, hw1, e_v4, e_v5c, hR1, hE1]
     exact ih1 (w64 (s1 + v5)) h
   ·have h := iteF h c2
    have c2b : (a0.Sym != a1.Sym) = true := bneT c2
    by_cases c3 : a2.Relabel < 0
    ·have h := iteT h c3
     simp only [go_sem, e_v1c, e_v2c, c1b, c2b, c3]
     injection h with h; subst h
     exact Sat.ok hQ
    ·have h := iteF h c3
     simp only [go_sem, e_v1c, e_v2c, c1b, c2b, c3]
     refine run_rangeL (c := L46_0) (live := [4, 5, 7, 8, 50, 51, 52]) (by simp only [go_sem]) (M := fun i2 (s2 : Int) => [(4, .ptr 1 0), (5, .ptr 2 0), (7, .p (iv (w64 ((w64 (a2.Remove * v1)) + (w64 (a2.Insert * v2)))))), (8, .p (iv s2)), (50, .p (.sl none 2 (List.map row_Tree a0.Kids))), (51, .p (iv (a0.Kids.length : Int))), (52, .p (iv (i2 : Int)))]) (Z := fun i2 (s2 : Int) => [.cells [.p (iv a0.Sym), .p (.sl none 2 (List.map row_Tree a0.Kids))], .cells [.p (iv a1.Sym), .p (.sl none 2 (List.map row_Tree a1.Kids))], .cells [.p (iv a2.Relabel), .p (iv a2.Remove), .p (iv a2.Insert)]]) (N := fun (s2 : Int) => ⟨[(7, .p (iv (w64 ((w64 (a2.Remove * v1)) + (w64 (a2.Insert * v2)))))), (8, .p (iv s2))], [.cells [.p (iv a0.Sym), .p (.sl none 2 (List.map row_Tree a0.Kids))], .cells [.p (iv a1.Sym), .p (.sl none 2 (List.map row_Tree a1.Kids))], .cells [.p (iv a2.Relabel), .p (iv a2.Remove), .p (iv a2.Insert)]], [], none, false⟩) h rfl rfl (fun _ _ => rfl) ?_ ?_ ?_
     ·intro s2 h
      try dsimp only at h ⊢
      obtain ⟨v6, e_v6, h⟩ := ob h
      have e_v6c : call Try.prog T H (.fn 76) [.p (iv (w64 ((w64 (a2.Remove * v1)) + (w64 (a2.Insert * v2))))), .p (iv s2)] [] = some (.ret (.p (iv v6)), []) := spec76 (w64 ((w64 (a2.Remove * v1)) + (w64 (a2.Insert * v2)))) s2 v6 e_v6
      simp only [go_sem, e_v6c]
      injection h with h; subst h
      exact Sat.ok hQ
     ·intro K2 s2 hb2 he2
      try dsimp only
      conv => arg 1; arg 7; unfold L46_0 loopAt S22.c46 Try.f46; simp only [loopIn, Option.getD_some, if_true]
      simp only [go_sem, he2]
      exact hb2
     ·intro K2 k2 i2 x2 s2 n2 hR2 hE2 hb2 hx2 hi2 hw2 ih2 h
      try dsimp only at h ⊢
      conv => arg 1; arg 7; unfold L46_0 loopAt S22.c46 Try.f46; simp only [loopIn, Option.getD_some, if_true]
      obtain ⟨v7, e_v7, h⟩ := ob h
      obtain ⟨v8, e_v8, h⟩ := ob h
      have e_v8c := ih x2 v7 a2 v8 e_v8
      simp only [go_sem, hx2, hi2, hw2, e_v7, e_v8c, hR2, hE2]
      exact ih2 (w64 (s2 + v8)) h
  ·have h := iteF h c1
   have c1b : ((a0.Kids.length : Int) != (a1.Kids.length : Int)) = true := bneT c1
   simp only [go_sem, e_v1c, e_v2c, c1b]
   injection h with h; subst h
   exact Sat.ok hQ
def repair_Distance (n : Nat) (a0 : Alphabet) (a1 : Tree) (a2 : Tree) (a3 : repair_Weights) : Option (Int × Int) :=
 (tree_Valid n a0 a1).bind fun v1 =>
 if v1 = true then
  (tree_Valid n a0 a2).bind fun v2 =>
  if v2 = true then
   (repair_fits a3).bind fun v3 =>
   if v3 = true then
    (repair_distance n a1 a2 a3).bind fun v4 =>
    some (v4, 0)
   else
    some (0, 6)
  else
   some (0, 1)
 else
  some (0, 1)
theorem spec16 (n : Nat) (a0 : Alphabet) (a1 : Tree) (a2 : Tree) (a3 : repair_Weights) (r : Int × Int) (h : repair_Distance n a0 a1 a2 a3 = some r) :
 call Try.prog T H (.fn 16) [.p (.agg [.sl none 1 (List.map rowI a0.Ranks)]), .p (.agg [iv a1.Sym, .sl none 2 (List.map row_Tree a1.Kids)]), .p (.agg [iv a2.Sym, .sl none 2 (List.map row_Tree a2.Kids)]), .p (.agg [iv a3.Relabel, iv a3.Remove, iv a3.Insert])] [] = some (.ret (.p (.tup [iv r.1, iv r.2])), []) := by
 refine Sat.fn fun Q hQ => ?_
 unfold repair_Distance at h
 rw [call16]
 conv => arg 1; arg 7; unfold S22.c16 Try.f16; simp only [Option.getD_some]
 obtain ⟨v1, e_v1, h⟩ := ob h
 have e_v1c := spec29 n a0 a1 v1 e_v1
 by_cases c1 : v1 = true
 ·have h := iteT h c1
  obtain ⟨v2, e_v2, h⟩ := ob h
  have e_v2c := spec29 n a0 a2 v2 e_v2
  by_cases c2 : v2 = true
  ·have h := iteT h c2
   obtain ⟨v3, e_v3, h⟩ := ob h
   have e_v3c := spec45 a3 v3 e_v3
   by_cases c3 : v3 = true
   ·have h := iteT h c3
    obtain ⟨v4, e_v4, h⟩ := ob h
    have e_v4c := spec46 n a1 a2 a3 v4 e_v4
    simp only [go_sem, e_v1c, c1, e_v2c, c2, e_v3c, c3, e_v4c]
    injection h with h; subst h
    exact Sat.ok hQ
   ·have h := iteF h c3
    have c3 := eq_false_of_ne_true c3
    simp only [go_sem, e_v1c, c1, e_v2c, c2, e_v3c, c3]
    injection h with h; subst h
    exact Sat.ok hQ
  ·have h := iteF h c2
   have c2 := eq_false_of_ne_true c2
   simp only [go_sem, e_v1c, c1, e_v2c, c2]
   injection h with h; subst h
   exact Sat.ok hQ
 ·have h := iteF h c1
  have c1 := eq_false_of_ne_true c1
  simp only [go_sem, e_v1c, c1]
  injection h with h; subst h
  exact Sat.ok hQ
def law22_given (a0 : ref22_Weights) : Option repair_Weights :=
 some (repair_Weights.mk a0.Relabel a0.Remove a0.Insert)
theorem spec17 (a0 : ref22_Weights) (r : repair_Weights) (h : law22_given a0 = some r) :
 call Try.prog T H (.fn 17) [.p (.agg [iv a0.Relabel, iv a0.Remove, iv a0.Insert])] [] = some (.ret (.p (.agg [iv r.Relabel, iv r.Remove, iv r.Insert])), []) := by
 refine Sat.fn fun Q hQ => ?_
 unfold law22_given at h
 rw [call17]
 conv => arg 1; arg 7; unfold S22.c17 Try.f17; simp only [Option.getD_some]
 simp only [go_sem]
 injection h with h; subst h
 exact Sat.ok hQ
def auto_asked (n : Nat) (a0 : Alphabet) (a1 : Automaton) (a2 : Tree) : Option Int :=
 (auto_Valid a0 a1).bind fun v1 =>
 if v1 = true then
  (tree_Valid n a0 a2).bind fun v2 =>
  if v2 = true then
   some 0
  else
   some 1
 else
  some 1
theorem spec77 (n : Nat) (a0 : Alphabet) (a1 : Automaton) (a2 : Tree) (r : Int) (h : auto_asked n a0 a1 a2 = some r) :
 call Try.prog T H (.fn 77) [.p (.agg [.sl none 1 (List.map rowI a0.Ranks)]), .p (.agg [iv a1.States, .sl none 1 (List.map rowI a1.Final), .sl none 3 (List.map row_Rule a1.Rules)]), .p (.agg [iv a2.Sym, .sl none 2 (List.map row_Tree a2.Kids)])] [] = some (.ret (.p (iv r)), []) := by
 refine Sat.fn fun Q hQ => ?_
 unfold auto_asked at h
 rw [call77]
 conv => arg 1; arg 7; unfold S22.c77 Try.f77; simp only [Option.getD_some]
 obtain ⟨v1, e_v1, h⟩ := ob h
 have e_v1c := spec28 a0 a1 v1 e_v1
 by_cases c1 : v1 = true
 ·have h := iteT h c1
  obtain ⟨v2, e_v2, h⟩ := ob h
  have e_v2c := spec29 n a0 a2 v2 e_v2
  by_cases c2 : v2 = true
  ·have h := iteT h c2
   simp only [go_sem, e_v1c, c1, e_v2c, c2]
   injection h with h; subst h
   exact Sat.ok hQ
  ·have h := iteF h c2
   have c2 := eq_false_of_ne_true c2
   simp only [go_sem, e_v1c, c1, e_v2c, c2]
   injection h with h; subst h
   exact Sat.ok hQ
 ·have h := iteF h c1
  have c1 := eq_false_of_ne_true c1
  simp only [go_sem, e_v1c, c1]
  injection h with h; subst h
  exact Sat.ok hQ
def auto_sets : Nat → Automaton → (List (List Int)) → Tree → Option (List (List Bool))
 | 0, _, _, _ => none
 | n + 1, a0, a1, a2 =>
  (mkz 1 a0.States a0.States false).bind fun v1 =>
  rangeL a2.Kids (([] : List (List Bool)), ([] : List (List Bool))) (fun k1 i1 x1 (s1 : (List (List Bool)) × (List (List Bool))) n1 =>
   (auto_sets n a0 a1 x1).bind fun v8 =>
   (v8[0]?).bind fun v9 =>
   (app 24 s1.2 [v9]).bind fun v10 =>
   (app 24 (([] : List Bool) :: s1.1) v8).bind fun v11 =>
   n1 ((List.tail v11), v10)) fun s1 =>
  (idx a1 a2.Sym).bind fun v2 =>
  rangeL v2 v1 (fun k4 i4 x4 (s4 : (List Bool)) n4 =>
   (idx a0.Rules x4).bind fun v4 =>
   rangeL v4.From () (fun k5 i5 x5 (s5 : Unit) n5 =>
    (s1.2[i5]?).bind fun v6 =>
    (idx v6 x5).bind fun v7 =>
    if v7 = true then
     n5 ()
    else
     n4 s4) fun s5 =>
   (idxM ((a0.States).toNat) s4 v4.To).bind fun v5 =>
   n4 (List.set s4 ((v4.To).toNat) true)) fun s4 =>
  (tkM ((a0.States).toNat) s4).bind fun v3 =>
  some (v3 :: s1.1)
theorem spec78 : ∀ (n : Nat), (∀ (a0 : Automaton) (a1 : List (List Int)) (a2 : Tree) (r : List (List Bool)), auto_sets n a0 a1 a2 = some r →
 call Try.prog T H (.fn 78) [.p (.agg [iv a0.States, .sl none 1 (List.map rowI a0.Final), .sl none 3 (List.map row_Rule a0.Rules)]), .p (.sl none 1 (List.map (rowL 1 rowI) a1)), .p (.agg [iv a2.Sym, .sl none 2 (List.map row_Tree a2.Kids)])] [] = some (.ret (.p (.sl none 1 (List.map (rowL 1 rowB) r))), [])) := by
 intro n
 induction n with
 | zero => intro a0 a1 a2 r h; cases h
 | succ n ih =>
  intro a0 a1 a2 r h
  refine Sat.fn fun Q hQ => ?_
  rw [auto_sets] at h
  rw [call78]
  conv => arg 1; arg 7; unfold S22.c78 Try.f78; simp only [Option.getD_some]
  obtain ⟨v1, e_v1, h⟩ := ob h
  obtain ⟨e_v11, e_v12, e_v13, e_v14⟩ := mkz_some e_v1
  have e_v1b : boundOk (a0.States).toNat 1 = true := bnd_of e_v13 (by decide)
  have e_v1r : List.replicate (a0.States).toNat [AV.p (bv false)] = List.map (rowA rowB) v1 := by rw [e_v14]; exact rep_map (by first | rfl | simp only [go_sem, List.map_nil])
  simp only [go_sem, e_v11, e_v12, e_v1b, e_v1r]
  refine run_rangeL (c := L78_0) (live := [1, 3, 5, 7, 8, 22, 23, 24]) (by simp only [go_sem]) (M := fun i1 (s1 : (List (List Bool)) × (List (List Bool))) => [(1, .p (.sl none 1 (List.map (rowL 1 rowI) a1))), (3, .ptr 0 0), (5, .ptr 1 0), (7, .asl true 1 ([.ms 2 0 1 0 ((a0.States).toNat)] :: List.map (rowA (rowL 1 rowB)) s1.1)), (8, .own 1 (List.map (rowL 1 rowB) s1.2)), (22, .p (.sl none 2 (List.map row_Tree a2.Kids))), (23, .p (iv (a2.Kids.length : Int))), (24, .p (iv (i1 : Int)))]) (Z := fun i1 (s1 : (List (List Bool)) × (List (List Bool))) => [.cells [.p (iv a0.States), .p (.sl none 1 (List.map rowI a0.Final)), .p (.sl none 3 (List.map row_Rule a0.Rules))], .cells [.p (iv a2.Sym), .p (.sl none 2 (List.map row_Tree a2.Kids))], .arr 0 1 (List.map (rowA rowB) v1)]) (N := fun (s1 : (List (List Bool)) × (List (List Bool))) => ⟨[(1, .p (.sl none 1 (List.map (rowL 1 rowI) a1))), (3, .ptr 0 0), (5, .ptr 1 0), (7, .asl true 1 ([.ms 2 0 1 0 ((a0.States).toNat)] :: List.map (rowA (rowL 1 rowB)) s1.1)), (8, .own 1 (List.map (rowL 1 rowB) s1.2))], [.cells [.p (iv a0.States), .p (.sl none 1 (List.map rowI a0.Final)), .p (.sl none 3 (List.map row_Rule a0.Rules))], .cells [.p (iv a2.Sym), .p (.sl none 2 (List.map row_Tree a2.Kids))], .arr 0 1 (List.map (rowA rowB) v1)], [], none, false⟩) h rfl rfl (fun _ _ => rfl) ?_ ?_ ?_
  ·intro s1 h
   try dsimp only at h ⊢
   obtain ⟨v2, e_v2, h⟩ := ob h
   obtain ⟨e_v2a, e_v2b⟩ := idx_some e_v2
   simp only [go_sem, e_v2a, e_v2b]
   refine run_rangeL (c := L78_2) (live := [3, 7, 8, 46, 47, 48]) (by simp only [go_sem]) (M := fun i4 (s4 : (List Bool)) => [(3, .ptr 0 0), (7, .asl true 1 ([.ms 2 0 1 0 ((a0.States).toNat)] :: List.map (rowA (rowL 1 rowB)) s1.1)), (8, .own 1 (List.map (rowL 1 rowB) s1.2)), (46, .p (.sl none 1 (List.map rowI v2))), (47, .p (iv (v2.length : Int))), (48, .p (iv (i4 : Int)))]) (Z := fun i4 (s4 : (List Bool)) => [.cells [.p (iv a0.States), .p (.sl none 1 (List.map rowI a0.Final)), .p (.sl none 3 (List.map row_Rule a0.Rules))], .cells [.p (iv a2.Sym), .p (.sl none 2 (List.map row_Tree a2.Kids))], .arr 0 1 (List.map (rowA rowB) s4)]) (N := fun (s4 : (List Bool)) => ⟨[(7, .asl true 1 ([.ms 2 0 1 0 ((a0.States).toNat)] :: List.map (rowA (rowL 1 rowB)) s1.1))], [.cells [.p (iv a0.States), .p (.sl none 1 (List.map rowI a0.Final)), .p (.sl none 3 (List.map row_Rule a0.Rules))], .cells [.p (iv a2.Sym), .p (.sl none 2 (List.map row_Tree a2.Kids))], .arr 0 1 (List.map (rowA rowB) s4)], [], none, false⟩) h rfl rfl (fun _ _ => rfl) ?_ ?_ ?_
   ·intro s4 h
    try dsimp only at h ⊢
    obtain ⟨v3, e_v3, h⟩ := ob h
    have e_v3a := (tkM_some e_v3).1
    have e_v3b := (tkM_some e_v3).2
    simp only [go_sem, e_v3a, e_v3b]
    injection h with h; subst h
    exact Sat.ok hQ
   ·intro K4 s4 hb4 he4
    try dsimp only
    conv => arg 1; arg 7; unfold L78_2 loopAt S22.c78 Try.f78; simp only [loopIn, Option.getD_some, if_true]
    simp only [go_sem, he4]
    exact hb4
   ·intro K4 k4 i4 x4 s4 n4 hR4 hE4 hb4 hx4 hi4 hw4 ih4 h
    try dsimp only at h ⊢
    conv => arg 1; arg 7; unfold L78_2 loopAt S22.c78 Try.f78; simp only [loopIn, Option.getD_some, if_true]
    obtain ⟨v4, e_v4, h⟩ := ob h
    obtain ⟨e_v4a, e_v4b⟩ := idx_some e_v4
    simp only [go_sem, hx4, hi4, hw4, e_v4a, e_v4b, hR4, hE4]
    refine run_rangeL (c := L78_4) (live := [3, 7, 8, 14, 46, 47, 48, 58, 59, 60]) (by simp only [go_sem]) (M := fun i5 (s5 : Unit) => [(3, .ptr 0 0), (7, .asl true 1 ([.ms 2 0 1 0 ((a0.States).toNat)] :: List.map (rowA (rowL 1 rowB)) s1.1)), (8, .own 1 (List.map (rowL 1 rowB) s1.2)), (14, .ptr 3 0), (46, .p (.sl none 1 (List.map rowI v2))), (47, .p (iv (v2.length : Int))), (48, .p (iv (i4 : Int))), (58, .p (.sl none 1 (List.map rowI v4.From))), (59, .p (iv (v4.From.length : Int))), (60, .p (iv (i5 : Int)))]) (Z := fun i5 (s5 : Unit) => [.cells [.p (iv a0.States), .p (.sl none 1 (List.map rowI a0.Final)), .p (.sl none 3 (List.map row_Rule a0.Rules))], .cells [.p (iv a2.Sym), .p (.sl none 2 (List.map row_Tree a2.Kids))], .arr 0 1 (List.map (rowA rowB) s4), .cells [.p (iv v4.Sym), .p (.sl none 1 (List.map rowI v4.From)), .p (iv v4.To)]]) (N := fun (s5 : Unit) => ⟨[(3, .ptr 0 0), (7, .asl true 1 ([.ms 2 0 1 0 ((a0.States).toNat)] :: List.map (rowA (rowL 1 rowB)) s1.1)), (8, .own 1 (List.map (rowL 1 rowB) s1.2)), (14, .ptr 3 0), (46, .p (.sl none 1 (List.map rowI v2))), (47, .p (iv (v2.length : Int))), (48, .p (iv (i4 : Int)))], [.cells [.p (iv a0.States), .p (.sl none 1 (List.map rowI a0.Final)), .p (.sl none 3 (List.map row_Rule a0.Rules))], .cells [.p (iv a2.Sym), .p (.sl none 2 (List.map row_Tree a2.Kids))], .arr 0 1 (List.map (rowA rowB) s4), .cells [.p (iv v4.Sym), .p (.sl none 1 (List.map rowI v4.From)), .p (iv v4.To)]], [], none, false⟩) h rfl rfl (fun _ _ => rfl) ?_ ?_ ?_
    ·intro s5 h
     try dsimp only at h ⊢
     obtain ⟨v5, e_v5, h⟩ := ob h
     obtain ⟨e_v5a, e_v5b, e_v5d⟩ := idxM_some e_v5
     have e_y1 : List.set (List.map (rowA rowB) s4) ((v4.To).toNat) [.p (bv true)] = List.map (rowA rowB) (List.set s4 ((v4.To).toNat) true) := map_set' (by first | rfl | simp only [go_sem, List.map_cons, List.map_nil])
     simp only [go_sem, e_v5a, e_v5b, e_v5d, e_y1, hw4, hR4, hE4]
     exact ih4 (List.set s4 ((v4.To).toNat) true) h
    ·intro K5 s5 hb5 he5
     try dsimp only
     conv => arg 1; arg 7; unfold L78_4 loopAt S22.c78 Try.f78; simp only [loopIn, Option.getD_some, if_true]
     simp only [go_sem, he5]
     exact hb5
    ·intro K5 k5 i5 x5 s5 n5 hR5 hE5 hb5 hx5 hi5 hw5 ih5 h
     try dsimp only at h ⊢
     conv => arg 1; arg 7; unfold L78_4 loopAt S22.c78 Try.f78; simp only [loopIn, Option.getD_some, if_true]
     obtain ⟨v6, e_v6, h⟩ := ob h
     obtain ⟨v7, e_v7, h⟩ := ob h
     obtain ⟨e_v7a, e_v7b⟩ := idx_some e_v7
     by_cases c1 : v7 = true
     ·have h := iteT h c1
      simp only [go_sem, hx5, hi5, hw5, e_v6, e_v7a, e_v7b, c1, hw4, hR4, hE4, hR5, hE5]
      exact ih5 () h
     ·have h := iteF h c1
      have c1 := eq_false_of_ne_true c1
      simp only [go_sem, hx5, hi5, hw5, e_v6, e_v7a, e_v7b, c1, hw4, hR4, hE4, hR5, hE5]
      exact ih4 s4 h
  ·intro K1 s1 hb1 he1
   try dsimp only
   conv => arg 1; arg 7; unfold L78_0 loopAt S22.c78 Try.f78; simp only [loopIn, Option.getD_some, if_true]
   simp only [go_sem, he1]
   exact hb1
  ·intro K1 k1 i1 x1 s1 n1 hR1 hE1 hb1 hx1 hi1 hw1 ih1 h
   try dsimp only at h ⊢
   conv => arg 1; arg 7; unfold L78_0 loopAt S22.c78 Try.f78; simp only [loopIn, Option.getD_some, if_true]
   obtain ⟨v8, e_v8, h⟩ := ob h
   have e_v8c := ih a0 a1 x1 v8 e_v8
   obtain ⟨v9, e_v9, h⟩ := ob h
   obtain ⟨v10, e_v10, h⟩ := ob h
   have e_v10a : boundOk (s1.2.length + 1) 24 = true := bnd_of (by have := (app_some e_v10).1; simpa using this) (by decide)
   have e_v10b : (List.map (rowL 1 rowB) s1.2) ++ [[.sl none 1 (List.map rowB v9)]] = List.map (rowL 1 rowB) v10 := by rw [(app_some e_v10).2]; simp [rowB, rowL]
   obtain ⟨v11, e_v11, h⟩ := ob h
   have e_v11a : boundOk (s1.1.length + 1 + v8.length) 24 = true := bnd_of (by have := (app_some e_v11).1; simp only [List.length_cons] at this; simpa using this) (by decide)
   have e_v11b : List.map (rowA (rowL 1 rowB)) s1.1 ++ (List.map (rowA (rowL 1 rowB)) v8) = List.map (rowA (rowL 1 rowB)) (List.tail v11) := by rw [(app_some e_v11).2]; simp [rowA, rowB, rowL]
   simp only [go_sem, hx1, hi1, hw1, e_v8c, e_v9, e_v10a, e_v10b, e_v11a, e_v11b, hR1, hE1]
   exact ih1 ((List.tail v11), v10) h
def auto_By (a0 : Alphabet) (a1 : Automaton) : Option (List (List Int)) :=
 (mkz 24 (a0.Ranks.length : Int) (a0.Ranks.length : Int) ([] : List Int)).bind fun v1 =>
 rangeL a1.Rules v1 (fun k1 i1 x1 (s1 : (List (List Int))) n1 =>
  (idxM a0.Ranks.length s1 x1.Sym).bind fun v3 =>
  (app 8 v3 [(i1 : Int)]).bind fun v4 =>
  n1 (List.set s1 ((x1.Sym).toNat) v4)) fun s1 =>
 (tkM a0.Ranks.length s1).bind fun v2 =>
 some v2
theorem spec79 (a0 : Alphabet) (a1 : Automaton) (r : List (List Int)) (h : auto_By a0 a1 = some r) :
 call Try.prog T H (.fn 79) [.p (.agg [.sl none 1 (List.map rowI a0.Ranks)]), .p (.agg [iv a1.States, .sl none 1 (List.map rowI a1.Final), .sl none 3 (List.map row_Rule a1.Rules)])] [] = some (.ret (.p (.sl none 1 (List.map (rowL 1 rowI) r))), []) := by
 refine Sat.fn fun Q hQ => ?_
 unfold auto_By at h
 rw [call79]
 conv => arg 1; arg 7; unfold S22.c79 Try.f79; simp only [Option.getD_some]
 obtain ⟨v1, e_v1, h⟩ := ob h
 obtain ⟨e_v11, e_v12, e_v13, e_v14⟩ := mkz_some e_v1
 have e_v1b : boundOk ((a0.Ranks.length : Int)).toNat 24 = true := bnd_of e_v13 (by decide)
 have e_v1r : List.replicate ((a0.Ranks.length : Int)).toNat [.own 1 []] = List.map (rowO 1 rowI) v1 := by rw [e_v14]; exact rep_map (by first | rfl | simp only [go_sem, List.map_nil])
 try simp only [Int.toNat_natCast] at e_v11
 try simp only [Int.toNat_natCast] at e_v12
 try simp only [Int.toNat_natCast] at e_v1b
 try simp only [Int.toNat_natCast] at e_v1r
 try simp only [Int.toNat_natCast] at e_v11
 try simp only [Int.toNat_natCast] at e_v12
 try simp only [Int.toNat_natCast] at e_v1b
 try simp only [Int.toNat_natCast] at e_v1r
 simp only [go_sem, e_v11, e_v12, e_v1b, e_v1r]
 refine run_rangeL (c := L79_0) (live := [5, 13, 14, 15]) (by simp only [go_sem]) (M := fun i1 (s1 : (List (List Int))) => [(5, .ms 2 0 1 0 a0.Ranks.length), (13, .p (.sl none 3 (List.map row_Rule a1.Rules))), (14, .p (iv (a1.Rules.length : Int))), (15, .p (iv (i1 : Int)))]) (Z := fun i1 (s1 : (List (List Int))) => [.cells [.p (.sl none 1 (List.map rowI a0.Ranks))], .cells [.p (iv a1.States), .p (.sl none 1 (List.map rowI a1.Final)), .p (.sl none 3 (List.map row_Rule a1.Rules))], .arr 0 1 (List.map (rowO 1 rowI) s1)]) (N := fun (s1 : (List (List Int))) => ⟨[(5, .ms 2 0 1 0 a0.Ranks.length)], [.cells [.p (.sl none 1 (List.map rowI a0.Ranks))], .cells [.p (iv a1.States), .p (.sl none 1 (List.map rowI a1.Final)), .p (.sl none 3 (List.map row_Rule a1.Rules))], .arr 0 1 (List.map (rowO 1 rowI) s1)], [], none, false⟩) h rfl rfl (fun _ _ => rfl) ?_ ?_ ?_
 ·intro s1 h
  try dsimp only at h ⊢
  obtain ⟨v2, e_v2, h⟩ := ob h
  have e_v2a := (tkM_some e_v2).1
  have e_v2b := (tkM_some e_v2).2
  simp only [go_sem, e_v2a, e_v2b]
  injection h with h; subst h
  exact Sat.ok hQ
 ·intro K1 s1 hb1 he1
  try dsimp only
  conv => arg 1; arg 7; unfold L79_0 loopAt S22.c79 Try.f79; simp only [loopIn, Option.getD_some, if_true]
  simp only [go_sem, he1]
  exact hb1
 ·intro K1 k1 i1 x1 s1 n1 hR1 hE1 hb1 hx1 hi1 hw1 ih1 h
  try dsimp only at h ⊢
  conv => arg 1; arg 7; unfold L79_0 loopAt S22.c79 Try.f79; simp only [loopIn, Option.getD_some, if_true]
  obtain ⟨v3, e_v3, h⟩ := ob h
  obtain ⟨e_v3a, e_v3b, e_v3d⟩ := idxM_some e_v3
  have e_g1 : (List.set (List.map (rowO 1 rowI) s1) ((x1.Sym).toNat) [.p (.sl none 1 (List.map rowI v3))])[(x1.Sym).toNat]? = some [.p (.sl none 1 (List.map rowI v3))] := by first | exact set_get_map e_v3 _ | exact set_get_map e_v3d _
  obtain ⟨v4, e_v4, h⟩ := ob h
  have e_v4a : boundOk (v3.length + 1) 8 = true := bnd_of (by have := (app_some e_v4).1; simpa using this) (by decide)
  have e_v4b : (List.map rowI v3) ++ [[iv (i1 : Int)]] = List.map rowI v4 := by rw [(app_some e_v4).2]; simp [rowI]
  have e_y1 : List.set (List.map (rowO 1 rowI) s1) ((x1.Sym).toNat) [.own 1 (List.map rowI v4)] = List.map (rowO 1 rowI) (List.set s1 ((x1.Sym).toNat) v4) := map_set' (by first | rfl | simp only [go_sem, List.map_cons, List.map_nil])
  simp only [go_sem, hx1, hi1, hw1, e_v3a, e_v3b, e_v3d, e_g1, List.set_set, e_v4a, e_v4b, e_y1, hR1, hE1]
  exact ih1 (List.set s1 ((x1.Sym).toNat) v4) h
def auto_States (n : Nat) (a0 : Alphabet) (a1 : Automaton) (a2 : Tree) : Option ((List Int) × Int) :=
 (auto_asked n a0 a1 a2).bind fun v1 =>
 if v1 = 0 then
  (auto_By a0 a1).bind fun v2 =>
  (auto_sets n a1 v2 a2).bind fun v3 =>
  (v3[0]?).bind fun v4 =>
  rangeL v4 ([] : List Int) (fun k1 i1 x1 (s1 : (List Int)) n1 =>
   if x1 = true then
    (app 8 s1 [(i1 : Int)]).bind fun v5 =>
    n1 v5
   else
    n1 s1) fun s1 =>
  some (s1, 0)
 else
  some (([] : List Int), v1)
theorem spec48 (n : Nat) (a0 : Alphabet) (a1 : Automaton) (a2 : Tree) (r : (List Int) × Int) (h : auto_States n a0 a1 a2 = some r) :
 call Try.prog T H (.fn 48) [.p (.agg [.sl none 1 (List.map rowI a0.Ranks)]), .p (.agg [iv a1.States, .sl none 1 (List.map rowI a1.Final), .sl none 3 (List.map row_Rule a1.Rules)]), .p (.agg [iv a2.Sym, .sl none 2 (List.map row_Tree a2.Kids)])] [] = some (.ret (.p (.tup [.sl none 1 (List.map rowI r.1), iv r.2])), []) := by
 refine Sat.fn fun Q hQ => ?_
 unfold auto_States at h
 rw [call48]
 conv => arg 1; arg 7; unfold S22.c48 Try.f48; simp only [Option.getD_some]
 obtain ⟨v1, e_v1, h⟩ := ob h
 have e_v1c := spec77 n a0 a1 a2 v1 e_v1
 by_cases c1 : v1 = 0
 ·have h := iteT h c1
  have c1b : (v1 != 0) = false := bneF c1
  obtain ⟨v2, e_v2, h⟩ := ob h
  have e_v2c := spec79 a0 a1 v2 e_v2
  obtain ⟨v3, e_v3, h⟩ := ob h
  have e_v3c := spec78 n a1 v2 a2 v3 e_v3
  obtain ⟨v4, e_v4, h⟩ := ob h
  simp only [go_sem, e_v1c, c1b, e_v2c, e_v3c, e_v4]
  refine run_rangeL (c := L48_0) (live := [9, 26, 27, 28]) (by simp only [go_sem]) (M := fun i1 (s1 : (List Int)) => [(9, .own 1 (List.map rowI s1)), (26, .p (.sl none 1 (List.map rowB v4))), (27, .p (iv (v4.length : Int))), (28, .p (iv (i1 : Int)))]) (Z := fun i1 (s1 : (List Int)) => [.cells [.p (.sl none 1 (List.map rowI a0.Ranks))], .cells [.p (iv a1.States), .p (.sl none 1 (List.map rowI a1.Final)), .p (.sl none 3 (List.map row_Rule a1.Rules))], .cells [.p (iv a2.Sym), .p (.sl none 2 (List.map row_Tree a2.Kids))]]) (N := fun (s1 : (List Int)) => ⟨[(9, .own 1 (List.map rowI s1))], [.cells [.p (.sl none 1 (List.map rowI a0.Ranks))], .cells [.p (iv a1.States), .p (.sl none 1 (List.map rowI a1.Final)), .p (.sl none 3 (List.map row_Rule a1.Rules))], .cells [.p (iv a2.Sym), .p (.sl none 2 (List.map row_Tree a2.Kids))]], [], none, false⟩) h rfl rfl (fun _ _ => rfl) ?_ ?_ ?_
  ·intro s1 h
   try dsimp only at h ⊢
   simp only [go_sem]
   injection h with h; subst h
   exact Sat.ok hQ
  ·intro K1 s1 hb1 he1
   try dsimp only
   conv => arg 1; arg 7; unfold L48_0 loopAt S22.c48 Try.f48; simp only [loopIn, Option.getD_some, if_true]
   simp only [go_sem, he1]
   exact hb1
  ·intro K1 k1 i1 x1 s1 n1 hR1 hE1 hb1 hx1 hi1 hw1 ih1 h
   try dsimp only at h ⊢
   conv => arg 1; arg 7; unfold L48_0 loopAt S22.c48 Try.f48; simp only [loopIn, Option.getD_some, if_true]
   by_cases c2 : x1 = true
   ·have h := iteT h c2
    obtain ⟨v5, e_v5, h⟩ := ob h
    have e_v5a : boundOk (s1.length + 1) 8 = true := bnd_of (by have := (app_some e_v5).1; simpa using this) (by decide)
    have e_v5b : (List.map rowI s1) ++ [[iv (i1 : Int)]] = List.map rowI v5 := by rw [(app_some e_v5).2]; simp [rowI]
    simp only [go_sem, hx1, hi1, hw1, c2, e_v5a, e_v5b, hR1, hE1]
    exact ih1 v5 h
   ·have h := iteF h c2
    have c2 := eq_false_of_ne_true c2
    simp only [go_sem, hx1, hi1, hw1, c2, hR1, hE1]
    exact ih1 s1 h
 ·have h := iteF h c1
  have c1b : (v1 != 0) = true := bneT c1
  simp only [go_sem, e_v1c, c1b]
  injection h with h; subst h
  exact Sat.ok hQ
def auto_Final (a0 : Automaton) : Option (List Bool) :=
 (mkz 1 a0.States a0.States false).bind fun v1 =>
 rangeL a0.Final v1 (fun k1 i1 x1 (s1 : (List Bool)) n1 =>
  (idxM ((a0.States).toNat) s1 x1).bind fun v3 =>
  n1 (List.set s1 ((x1).toNat) true)) fun s1 =>
 (tkM ((a0.States).toNat) s1).bind fun v2 =>
 some v2
theorem spec49 (a0 : Automaton) (r : List Bool) (h : auto_Final a0 = some r) :
 call Try.prog T H (.fn 49) [.p (.agg [iv a0.States, .sl none 1 (List.map rowI a0.Final), .sl none 3 (List.map row_Rule a0.Rules)])] [] = some (.ret (.p (.sl none 1 (List.map rowB r))), []) := by
 refine Sat.fn fun Q hQ => ?_
 unfold auto_Final at h
 rw [call49]
 conv => arg 1; arg 7; unfold S22.c49 Try.f49; simp only [Option.getD_some]
 obtain ⟨v1, e_v1, h⟩ := ob h
 obtain ⟨e_v11, e_v12, e_v13, e_v14⟩ := mkz_some e_v1
 have e_v1b : boundOk (a0.States).toNat 1 = true := bnd_of e_v13 (by decide)
 have e_v1r : List.replicate (a0.States).toNat [AV.p (bv false)] = List.map (rowA rowB) v1 := by rw [e_v14]; exact rep_map (by first | rfl | simp only [go_sem, List.map_nil])
 simp only [go_sem, e_v11, e_v12, e_v1b, e_v1r]
 refine run_rangeL (c := L49_0) (live := [3, 10, 11, 12]) (by simp only [go_sem]) (M := fun i1 (s1 : (List Bool)) => [(3, .ms 1 0 1 0 ((a0.States).toNat)), (10, .p (.sl none 1 (List.map rowI a0.Final))), (11, .p (iv (a0.Final.length : Int))), (12, .p (iv (i1 : Int)))]) (Z := fun i1 (s1 : (List Bool)) => [.cells [.p (iv a0.States), .p (.sl none 1 (List.map rowI a0.Final)), .p (.sl none 3 (List.map row_Rule a0.Rules))], .arr 0 1 (List.map (rowA rowB) s1)]) (N := fun (s1 : (List Bool)) => ⟨[(3, .ms 1 0 1 0 ((a0.States).toNat))], [.cells [.p (iv a0.States), .p (.sl none 1 (List.map rowI a0.Final)), .p (.sl none 3 (List.map row_Rule a0.Rules))], .arr 0 1 (List.map (rowA rowB) s1)], [], none, false⟩) h rfl rfl (fun _ _ => rfl) ?_ ?_ ?_
 ·intro s1 h
  try dsimp only at h ⊢
  obtain ⟨v2, e_v2, h⟩ := ob h
  have e_v2a := (tkM_some e_v2).1
  have e_v2b := (tkM_some e_v2).2
  simp only [go_sem, e_v2a, e_v2b]
  injection h with h; subst h
  exact Sat.ok hQ
 ·intro K1 s1 hb1 he1
  try dsimp only
  conv => arg 1; arg 7; unfold L49_0 loopAt S22.c49 Try.f49; simp only [loopIn, Option.getD_some, if_true]
  simp only [go_sem, he1]
  exact hb1
 ·intro K1 k1 i1 x1 s1 n1 hR1 hE1 hb1 hx1 hi1 hw1 ih1 h
  try dsimp only at h ⊢
  conv => arg 1; arg 7; unfold L49_0 loopAt S22.c49 Try.f49; simp only [loopIn, Option.getD_some, if_true]
  obtain ⟨v3, e_v3, h⟩ := ob h
  obtain ⟨e_v3a, e_v3b, e_v3d⟩ := idxM_some e_v3
  have e_y1 : List.set (List.map (rowA rowB) s1) ((x1).toNat) [.p (bv true)] = List.map (rowA rowB) (List.set s1 ((x1).toNat) true) := map_set' (by first | rfl | simp only [go_sem, List.map_cons, List.map_nil])
  simp only [go_sem, hx1, hi1, hw1, e_v3a, e_v3b, e_v3d, e_y1, hR1, hE1]
  exact ih1 (List.set s1 ((x1).toNat) true) h
def auto_Accepts (n : Nat) (a0 : Alphabet) (a1 : Automaton) (a2 : Tree) : Option (Bool × Int) :=
 (auto_States n a0 a1 a2).bind fun v1 =>
 if v1.2 = 0 then
  (auto_Final a1).bind fun v2 =>
  jn (fun (u1 : Int) =>
   some (decide (0 ≤ u1), 0)) fun j1 =>
  rangeL v1.1 () (fun k1 i1 x1 (s1 : Unit) n1 =>
   (idx v2 x1).bind fun v3 =>
   if v3 = true then
    j1 (i1 : Int)
   else
    n1 ()) fun s1 =>
  j1 (-1)
 else
  some (false, v1.2)
theorem spec19 (n : Nat) (a0 : Alphabet) (a1 : Automaton) (a2 : Tree) (r : Bool × Int) (h : auto_Accepts n a0 a1 a2 = some r) :
 call Try.prog T H (.fn 19) [.p (.agg [.sl none 1 (List.map rowI a0.Ranks)]), .p (.agg [iv a1.States, .sl none 1 (List.map rowI a1.Final), .sl none 3 (List.map row_Rule a1.Rules)]), .p (.agg [iv a2.Sym, .sl none 2 (List.map row_Tree a2.Kids)])] [] = some (.ret (.p (.tup [bv r.1, iv r.2])), []) := by
 refine Sat.fn fun Q hQ => ?_
 unfold auto_Accepts at h
 rw [call19]
 conv => arg 1; arg 7; unfold S22.c19 Try.f19; simp only [Option.getD_some]
 obtain ⟨v1, e_v1, h⟩ := ob h
 have e_v1c := spec48 n a0 a1 a2 v1 e_v1
 by_cases c1 : v1.2 = 0
 ·have h := iteT h c1
  have c1b : (v1.2 != 0) = false := bneF c1
  obtain ⟨v2, e_v2, h⟩ := ob h
  have e_v2c := spec49 a1 v2 e_v2
  simp only [go_sem, e_v1c, c1b, e_v2c]
  refine Sat.callc ?_
  rw [call50]
  conv => arg 1; arg 7; unfold S22.c50 Try.f50; simp only [Option.getD_some]
  simp only [go_sem]
  refine Sat.callj (V := fun (u1 : Int) => .p (iv u1)) (Z := fun (u1 : Int) => [.cells [.p (.sl none 1 (List.map rowI a0.Ranks))], .cells [.p (iv a1.States), .p (.sl none 1 (List.map rowI a1.Final)), .p (.sl none 3 (List.map row_Rule a1.Rules))], .cells [.p (iv a2.Sym), .p (.sl none 2 (List.map row_Tree a2.Kids))], .cells [.p (.sl none 1 (List.map rowB v2))]]) h ?_ ?_
  ·intro u1 h
   try dsimp only at h ⊢
   simp only [go_sem]
   refine Sat.ok ?_
   dsimp only
   simp only [go_sem]
   injection h with h; subst h
   exact Sat.ok hQ
  ·intro j1 h
   rw [call80]
   conv => arg 1; arg 7; unfold S22.c80 Try.f80; simp only [Option.getD_some]
   simp only [go_sem]
   refine run_rangeL (c := L80_0) (live := [0, 1, 7, 8]) (by simp only [go_sem]) (M := fun i1 (s1 : Unit) => [(0, .p (.sl none 1 (List.map rowI v1.1))), (1, .fn 51 [.ptr 3 0]), (7, .p (iv (v1.1.length : Int))), (8, .p (iv (i1 : Int)))]) (Z := fun i1 (s1 : Unit) => [.cells [.p (.sl none 1 (List.map rowI a0.Ranks))], .cells [.p (iv a1.States), .p (.sl none 1 (List.map rowI a1.Final)), .p (.sl none 3 (List.map row_Rule a1.Rules))], .cells [.p (iv a2.Sym), .p (.sl none 2 (List.map row_Tree a2.Kids))], .cells [.p (.sl none 1 (List.map rowB v2))]]) (N := fun (s1 : Unit) => ⟨[], [.cells [.p (.sl none 1 (List.map rowI a0.Ranks))], .cells [.p (iv a1.States), .p (.sl none 1 (List.map rowI a1.Final)), .p (.sl none 3 (List.map row_Rule a1.Rules))], .cells [.p (iv a2.Sym), .p (.sl none 2 (List.map row_Tree a2.Kids))], .cells [.p (.sl none 1 (List.map rowB v2))]], [], none, false⟩) h rfl rfl (fun _ _ => rfl) ?_ ?_ ?_
   ·intro s1 h
    try dsimp only at h ⊢
    simp only [go_sem]
    exact Sat.ok ⟨(-1), rfl, h⟩
   ·intro K1 s1 hb1 he1
    try dsimp only
    conv => arg 1; arg 7; unfold L80_0 loopAt S22.c80 Try.f80; simp only [loopIn, Option.getD_some, if_true]
    simp only [go_sem, he1]
    exact hb1
   ·intro K1 k1 i1 x1 s1 n1 hR1 hE1 hb1 hx1 hi1 hw1 ih1 h
    try dsimp only at h ⊢
    conv => arg 1; arg 7; unfold L80_0 loopAt S22.c80 Try.f80; simp only [loopIn, Option.getD_some, if_true]
    simp only [go_sem, hx1, hi1, hw1, hR1, hE1]
    refine Sat.callc ?_
    rw [call51]
    conv => arg 1; arg 7; unfold S22.c51 Try.f51; simp only [Option.getD_some]
    obtain ⟨v3, e_v3, h⟩ := ob h
    obtain ⟨e_v3a, e_v3b⟩ := idx_some e_v3
    simp only [go_sem, e_v3a, e_v3b, hw1, hR1, hE1]
    refine Sat.ok ?_
    dsimp only
    by_cases c2 : v3 = true
    ·have h := iteT h c2
     simp only [go_sem, c2, hw1, hR1, hE1]
     exact Sat.ok ⟨(i1 : Int), rfl, h⟩
    ·have h := iteF h c2
     have c2 := eq_false_of_ne_true c2
     simp only [go_sem, c2, hw1, hR1, hE1]
     exact ih1 () h
 ·have h := iteF h c1
  have c1b : (v1.2 != 0) = true := bneT c1
  simp only [go_sem, e_v1c, c1b]
  injection h with h; subst h
  exact Sat.ok hQ
end Go.AM.S22

namespace Go.AM.S22
open Go Go.Proofs Go.AM
set_option linter.unusedVariables false
theorem w64_eq {n : Int} (h1 : -9223372036854775808 ≤ n) (h2 : n ≤ 9223372036854775807) : w64 n = n := wrapN h1 h2
theorem app_ok {α : Type} {b : Nat} {xs ys : List α} (h : (xs.length + ys.length) * b ≤ 70368744177664) : app b xs ys = some (xs ++ ys) := if_pos h
mutual
def tsT : Tree → Nat
 | .mk _ k => 1 + tsL k
def tsL : List Tree → Nat
 | [] => 0
 | x :: r => tsT x + tsL r
end
mutual
def tdT : Tree → Nat
 | .mk _ k => tdL k
def tdL : List Tree → Nat
 | [] => 0
 | x :: r => max (tdT x + 1) (tdL r)
end
mutual
def twT : Tree → Bool
 | .mk _ k => decide (k.length < 9223372036854775808) && twL k
def twL : List Tree → Bool
 | [] => true
 | x :: r => twT x && twL r
end
theorem tsT_eq (t : Tree) : tsT t = 1 + tsL t.Kids := by cases t; rw [tsT]
theorem tdT_eq (t : Tree) : tdT t = tdL t.Kids := by cases t; rw [tdT]
theorem twT_eq (t : Tree) : twT t = (decide (t.Kids.length < 9223372036854775808) && twL t.Kids) := by cases t; rw [twT]
theorem tlen : ∀ l : List Tree, l.length ≤ tsL l
 | [] => Nat.zero_le _
 | x :: r => by rw [tsL, List.length_cons, tsT_eq]; have := tlen r; omega
theorem tdL_cons {x : Tree} {r : List Tree} {n : Nat} (h : tdL (x :: r) < n + 1) : tdT x < n ∧ tdL r < n + 1 := by rw [tdL] at h; omega
theorem tcount_eq : ∀ (n : Nat) (t : Tree) (m : Int), tdT t < n → twT t = true → 0 ≤ m → m ≤ 1000000 → ref01_count n t m = some (min (tsT t : Int) (m + 1)) := by
 intro n
 induction n with
 | zero => intro t m hd; omega
 | succ n ih =>
  intro t m hd hw h1 h2
  rw [twT_eq] at hw
  simp only [Bool.and_eq_true, decide_eq_true_eq] at hw
  rw [tdT_eq] at hd
  rw [ref01_count, rangeL, if_pos hw.1]
  suffices H : ∀ (l : List Tree) (i : Nat) (c : Nat) (k : Int → Option Int), 1 ≤ c → tdL l < n + 1 → twL l = true → rangeC (fun i1 x1 (s1 : Int) n1 => if s1 ≤ m then (ref01_count n x1 (w64 (m - s1))).bind fun v1 => n1 (w64 (s1 + v1)) else n1 s1) l i (min (c : Int) (m + 1)) k = k (min ((c + tsL l : Nat) : Int) (m + 1)) by
   have := H t.Kids 0 1 (fun s => some s) (by omega) hd hw.2
   rw [show min ((1 : Nat) : Int) (m + 1) = 1 by omega] at this
   rw [this, tsT_eq]
  intro l
  induction l with
  | nil => intro i c k _ _ _; rw [rangeC, tsL]; rfl
  | cons x r ihr =>
   intro i c k hc hd hw
   obtain ⟨d1, d2⟩ := tdL_cons hd
   rw [twL, Bool.and_eq_true] at hw
   rw [rangeC]
   by_cases cc : min (c : Int) (m + 1) ≤ m
   ·rw [if_pos cc]
    have e : min (c : Int) (m + 1) = c := by omega
    rw [e, w64_eq (n := m - c) (by omega) (by omega), ih x _ d1 hw.1 (by omega) (by omega)]
    show rangeC _ r (i + 1) (w64 (c + min (tsT x : Int) (m - c + 1))) k = _
    rw [w64_eq (by omega) (by omega)]
    have := ihr (i + 1) (c + tsT x) k (by omega) d2 hw.2
    rw [show (c : Int) + min (tsT x : Int) (m - c + 1) = min ((c + tsT x : Nat) : Int) (m + 1) by omega, this, tsL]
    congr 2; omega
   ·rw [if_neg cc]
    show rangeC _ r (i + 1) (min (c : Int) (m + 1)) k = _
    have := ihr (i + 1) (c + tsT x) k (by omega) d2 hw.2
    rw [show min (c : Int) (m + 1) = min ((c + tsT x : Nat) : Int) (m + 1) by omega, this, tsL]
    congr 2; omega
theorem tfew_eq {n : Nat} {t : Tree} {m : Int} (hd : tdT t < n) (hw : twT t = true) (h1 : 0 ≤ m) (h2 : m ≤ 1000000) : ref01_Few n t m = some (decide ((tsT t : Int) ≤ m)) := by
 rw [ref01_Few, tcount_eq n t m hd hw h1 h2]
 show some _ = some _
 congr 1
 exact decide_eq_decide.2 (by omega)
def ord (a b : Int) : Int := if a < b then -1 else if b < a then 1 else 0
theorem compare_int (a b : Int) : cmp_Compare_int a b = some (ord a b) := by
 unfold cmp_Compare_int cmp_isNaN_int ord
 simp only [bne_self_eq_false, Option.bind_some]
 rw [if_neg (by decide), if_neg (by decide)]
 split
 ·rfl
 ·split <;> rfl
set_option linter.unusedVariables false
theorem tree_Size_eq : ∀ (n : Nat) (t : Tree), tdT t < n → tsT t ≤ 1000000 → tree_Size n t = some (tsT t : Int) := by
 intro n
 induction n with
 | zero => intro t hd; omega
 | succ n ih =>
  intro t hd hs
  rw [tdT_eq] at hd
  have hlen := tlen t.Kids
  rw [tsT_eq] at hs
  rw [tree_Size, rangeL, if_pos (by omega)]
  suffices H : ∀ (l : List Tree) (i : Nat) (s : Int) (k : Int → Option Int), tdL l < n + 1 → 1 ≤ s → s + tsL l ≤ 1000001 → rangeC (fun i1 x1 (s1 : Int) n1 => (tree_Size n x1).bind fun v1 => n1 (w64 (s1 + v1))) l i s k = k (s + tsL l) by
   rw [H t.Kids 0 1 _ hd (by omega) (by omega), tsT_eq]
   congr 1
  intro l
  induction l with
  | nil => intro i s k _ _ _; rw [rangeC, tsL]; congr 1; simp
  | cons x r ihr =>
   intro i s k hd h0 h1
   obtain ⟨d1, d2⟩ := tdL_cons hd
   rw [tsL] at h1
   rw [rangeC, ih x d1 (by omega)]
   simp only [Option.bind_some]
   rw [w64_eq (by omega) (by omega), ihr _ _ _ d2 (by omega) (by omega), tsL]
   congr 1; omega
mutual
theorem td_le : ∀ t : Tree, tdT t + 1 ≤ tsT t
 | .mk s k => by rw [tdT, tsT]; have := tdL_le k; omega
theorem tdL_le : ∀ l : List Tree, tdL l ≤ tsL l
 | [] => by rw [tdL, tsL]; exact Nat.le_refl _
 | x :: r => by rw [tdL, tsL]; have := td_le x; have := tdL_le r; omega
end
set_option linter.unusedVariables false
def rk (r : List Int) (s : Int) : Int := (r[s.toNat]?).getD 0
theorem rk_get {r : List Int} {s : Int} (h0 : 0 ≤ s) (h1 : s < r.length) : idx r s = some (rk r s) := by
 unfold idx rk
 rw [if_pos h0, List.getElem?_eq_getElem (by omega)]; rfl
mutual
def shT (r : List Int) : Tree → Bool
 | .mk s k => decide (0 ≤ s ∧ s < r.length ∧ (k.length : Int) = rk r s) && shL r k
def shL (r : List Int) : List Tree → Bool
 | [] => true
 | x :: q => shT r x && shL r q
end
theorem shT_eq (r : List Int) (t : Tree) : shT r t = (decide (0 ≤ t.Sym ∧ t.Sym < r.length ∧ (t.Kids.length : Int) = rk r t.Sym) && shL r t.Kids) := by cases t; rw [shT]
theorem tw_out {t : Tree} (h : twT t = true) : t.Kids.length < 9223372036854775808 ∧ twL t.Kids = true := by
 rw [twT_eq] at h; simpa only [Bool.and_eq_true, decide_eq_true_eq] using h
theorem tw_cons {x : Tree} {q : List Tree} (h : twL (x :: q) = true) : twT x = true ∧ twL q = true := by
 rw [twL] at h; simpa only [Bool.and_eq_true] using h
theorem tformed_eq (r : List Int) : ∀ (n : Nat) (t : Tree) (m : Int), tdT t < n → twT t = true → 0 ≤ m → m ≤ 1000000 →
 (((tsT t : Int) ≤ m ∧ shT r t = true) ∧ tree_formed n ⟨r⟩ t m = some (true, m - tsT t)) ∨ (¬ ((tsT t : Int) ≤ m ∧ shT r t = true) ∧ ∃ v, tree_formed n ⟨r⟩ t m = some (false, v)) := by
 intro n
 induction n with
 | zero => intro t m hd; omega
 | succ n ih =>
  intro t m hd hw h1 h2
  obtain ⟨w1, w2⟩ := tw_out hw
  rw [tree_formed, shT_eq, tsT_eq]
  simp only [Bool.and_eq_true, decide_eq_true_eq]
  have e1 : w64 (m - 1) = m - 1 := w64_eq (by omega) (by omega)
  rw [e1]
  by_cases c1 : m - 1 < 0
  ·exact .inr ⟨by omega, _, by rw [if_pos c1]⟩
  rw [if_neg c1]
  by_cases c2 : t.Sym < 0
  ·exact .inr ⟨by omega, _, by rw [if_pos c2]⟩
  rw [if_neg c2]
  by_cases c3 : (r.length : Int) ≤ t.Sym
  ·exact .inr ⟨by omega, _, by rw [if_pos c3]⟩
  rw [if_neg c3, rk_get (by omega) (by omega)]
  simp only [Option.bind_some]
  by_cases c4 : (t.Kids.length : Int) = rk r t.Sym
  ·rw [if_pos c4]
   rw [rangeL, if_pos w1]
   rw [tdT_eq] at hd
   suffices H : ∀ (l : List Tree) (i : Nat) (s : Int), tdL l < n + 1 → twL l = true → 0 ≤ s → s ≤ 1000000 →
    (((tsL l : Int) ≤ s ∧ shL r l = true) ∧ ∀ k : Int → Option (Bool × Int), rangeC (fun i1 x1 (s1 : Int) n1 => (tree_formed n ⟨r⟩ x1 s1).bind fun v2 => if v2.1 = true then n1 v2.2 else some (false, v2.2)) l i s k = k (s - tsL l)) ∨
    (¬ ((tsL l : Int) ≤ s ∧ shL r l = true) ∧ ∃ v, ∀ k : Int → Option (Bool × Int), rangeC (fun i1 x1 (s1 : Int) n1 => (tree_formed n ⟨r⟩ x1 s1).bind fun v2 => if v2.1 = true then n1 v2.2 else some (false, v2.2)) l i s k = some (false, v)) by
    rcases H t.Kids 0 (m - 1) hd w2 (by omega) (by omega) with ⟨c, e⟩ | ⟨c, v, e⟩
    ·exact .inl ⟨⟨by omega, ⟨by omega, by omega, c4⟩, c.2⟩, by rw [e]; congr 2; omega⟩
    ·exact .inr ⟨fun hh => c ⟨by omega, hh.2.2⟩, v, e _⟩
   intro l
   induction l with
   | nil => intro i s _ _ h1 h2; exact .inl ⟨⟨by rw [tsL]; exact h1, by rw [shL]⟩, fun k => by rw [rangeC, tsL]; congr 1; simp⟩
   | cons x q ihr =>
    intro i s hd hw h1 h2
    obtain ⟨d1, d2⟩ := tdL_cons hd
    obtain ⟨v1, v2⟩ := tw_cons hw
    rw [tsL, shL]
    simp only [Bool.and_eq_true, rangeC]
    rcases ih x s d1 v1 h1 h2 with ⟨c, e⟩ | ⟨c, v, e⟩
    ·rcases ihr (i + 1) (s - tsT x) d2 v2 (by omega) (by omega) with ⟨c', e'⟩ | ⟨c', v, e'⟩
     ·exact .inl ⟨⟨by omega, c.2, c'.2⟩, fun k => by rw [e]; simp only [Option.bind_some, if_true]; rw [e' k]; congr 1; omega⟩
     ·exact .inr ⟨fun hh => c' ⟨by omega, hh.2.2⟩, v, fun k => by rw [e]; simp only [Option.bind_some, if_true]; rw [e' k]⟩
    ·exact .inr ⟨fun hh => c ⟨by omega, hh.2.1⟩, v, fun k => by rw [e]; rfl⟩
  ·rw [if_neg c4]
   exact .inr ⟨fun hh => c4 hh.2.1.2.2, _, rfl⟩
def vA (r : List Int) : Bool := decide (r.length ≤ 12) && r.all fun x => decide (0 ≤ x ∧ x ≤ 3)
theorem hvA (r : List Int) : tree_ValidAlphabet ⟨r⟩ = some (vA r) := by
 unfold tree_ValidAlphabet vA
 simp only []
 by_cases c : (r.length : Int) ≤ 12
 ·rw [if_pos c, decide_eq_true (by omega : r.length ≤ 12), Bool.true_and]
  simp only [jn]
  rw [rangeL, if_pos (by omega)]
  suffices H : ∀ (l : List Int) (i : Nat), rangeC (fun i1 (x1 : Int) (s1 : Unit) n1 => (tree_ValidAlphabet_1 x1).bind fun v1 => if v1 = true then some (!decide ((0 : Int) ≤ (i1 : Int))) else n1 ()) l i () (fun _ => some (!decide ((0 : Int) ≤ -1))) = some (l.all fun x => decide (0 ≤ x ∧ x ≤ 3)) from H r 0
  intro l
  induction l with
  | nil => intro i; rw [rangeC]; rfl
  | cons x q ih =>
   intro i
   rw [rangeC, List.all_cons]
   unfold tree_ValidAlphabet_1
   by_cases c1 : x < 0
   ·rw [if_pos c1, decide_eq_false (by omega : ¬ (0 ≤ x ∧ x ≤ 3))]
    simp only [Option.bind_some, if_true]
    rw [decide_eq_true (by omega : (0 : Int) ≤ (i : Int))]; rfl
   ·rw [if_neg c1]
    simp only [Option.bind_some]
    by_cases c2 : 3 < x
    ·rw [decide_eq_true c2, decide_eq_false (by omega : ¬ (0 ≤ x ∧ x ≤ 3)), if_pos rfl, decide_eq_true (by omega : (0 : Int) ≤ (i : Int))]; rfl
    ·rw [decide_eq_false c2, decide_eq_true (by omega : 0 ≤ x ∧ x ≤ 3), if_neg (by decide), Bool.true_and]
     exact ih (i + 1)
 ·rw [if_neg c, decide_eq_false (by omega : ¬ r.length ≤ 12)]; rfl
def tvld (r : List Int) (t : Tree) : Bool := vA r && (decide ((tsT t : Int) ≤ 300) && shT r t)
theorem tvalid_eq (r : List Int) {n : Nat} {t : Tree} (hd : tdT t < n) (hw : twT t = true) : tree_Valid n ⟨r⟩ t = some (tvld r t) := by
 unfold tree_Valid tvld
 rw [hvA]
 simp only [Option.bind_some]
 cases vA r with
 | false => rfl
 | true =>
  rw [if_pos rfl, Bool.true_and]
  rcases tformed_eq r n t 300 hd hw (by omega) (by omega) with ⟨c, e⟩ | ⟨c, v, e⟩
  ·rw [e, decide_eq_true c.1, c.2]; rfl
  ·rw [e]
   simp only [Option.bind_some]
   congr 1
   cases h1 : shT r t with
   | false => simp
   | true => rw [decide_eq_false (fun h2 => c ⟨h2, h1⟩)]; rfl
set_option linter.unusedVariables false
set_option linter.unusedVariables false
end Go.AM.S22

namespace Go.AM.S22
open Go Go.Proofs Go.AM
set_option linter.unusedVariables false
def allI {α : Type} (ok : Nat → α → Bool) : Nat → List α → Bool
 | _, [] => true
 | i, x :: r => ok i x && allI ok (i + 1) r
theorem chk {α R : Type} {body : Nat → α → Unit → (Unit → Option R) → Option R} {ok : Nat → α → Bool} {f : Option R} : ∀ (l : List α) (i : Nat) (k : Unit → Option R), (∀ j x n1, l[j]? = some x → body (i + j) x () n1 = if ok (i + j) x = true then n1 () else f) →
 rangeC body l i () k = if allI ok i l = true then k () else f
 | [], i, k, _ => by rw [rangeC, allI, if_pos rfl]
 | x :: l, i, k, h => by
  have h0 := h 0 x (fun u => rangeC body l (i + 1) u k) rfl
  rw [Nat.add_zero] at h0
  rw [rangeC, allI]
  rw [show (fun s' => rangeC body l (i + 1) s' k) = (fun u => rangeC body l (i + 1) u k) from rfl, h0]
  cases hk : ok i x with
  | false => simp
  | true =>
   simp only [if_true, Bool.true_and]
   exact chk l (i + 1) k (fun j y n1 hj => by have := h (j + 1) y n1 (by simpa using hj); rwa [show i + (j + 1) = i + 1 + j by omega] at this)
theorem allI_all {α : Type} {ok : α → Bool} : ∀ (l : List α) (i : Nat), allI (fun _ x => ok x) i l = l.all ok
 | [], _ => rfl
 | x :: l, i => by rw [allI, allI_all l, List.all_cons]
def stOk (m s : Int) : Bool := decide (0 ≤ s ∧ s < m)
def rOk (r : List Int) (m : Int) (x : Rule) : Bool := decide (0 ≤ x.Sym ∧ x.Sym < r.length ∧ (x.From.length : Int) = rk r x.Sym) && (stOk m x.To && x.From.all (stOk m))
def fOk (F : List Int) (m : Int) (i : Nat) (x : Int) : Bool := stOk m x && (decide (i = 0) || decide ((F[i - 1]?).getD 0 < x))
def aV (r : List Int) (a : Automaton) : Bool := vA r && (decide (0 ≤ a.States ∧ a.States ≤ 300 ∧ (a.Rules.length : Int) ≤ 20000) && (allI (fOk a.Final a.States) 0 a.Final && a.Rules.all (rOk r a.States)))
structure AW (a : Automaton) : Prop where
 fin : a.Final.length < 9223372036854775808
 rul : a.Rules.length < 9223372036854775808
 frm : ∀ x ∈ a.Rules, x.From.length < 9223372036854775808
theorem idx_prev {F : List Int} {i : Nat} {x : Int} (h : F[i]? = some x) (hi : 0 < i) (hl : F.length < 9223372036854775808) : idx F (w64 ((i : Int) - 1)) = some ((F[i - 1]?).getD 0) := by
 have hlt := (List.getElem?_eq_some_iff.1 h).1
 rw [w64_eq (by omega) (by omega)]
 unfold idx
 rw [if_pos (by omega), show ((i : Int) - 1).toNat = i - 1 by omega, List.getElem?_eq_getElem (by omega)]
 rfl
theorem auto_eq (r : List Int) (a : Automaton) (w : AW a) : auto_Valid ⟨r⟩ a = some (aV r a) := by
 unfold auto_Valid aV
 rw [hvA]
 simp only [Option.bind_some]
 cases vA r with
 | false => rfl
 | true =>
  simp only [if_true, Bool.true_and]
  by_cases c1 : a.States < 0
  ·rw [if_pos c1, decide_eq_false (by omega)]; rfl
  rw [if_neg c1]
  by_cases c2 : 300 < a.States
  ·rw [if_pos c2, decide_eq_false (by omega)]; rfl
  rw [if_neg c2]
  by_cases c3 : 20000 < (a.Rules.length : Int)
  ·rw [if_pos c3, decide_eq_false (by omega)]; rfl
  rw [if_neg c3, decide_eq_true (by omega), Bool.true_and]
  rw [rangeL, if_pos w.fin]
  rw [chk (ok := fOk a.Final a.States) (f := some false) a.Final 0 _ (fun j x n1 hj => by
   rw [Nat.zero_add]
   unfold jn fOk stOk
   dsimp only
   by_cases d1 : 0 ≤ x
   ·rw [if_pos d1]
    by_cases d2 : x < a.States
    ·rw [decide_eq_true d2, if_pos rfl, decide_eq_true (⟨d1, d2⟩ : 0 ≤ x ∧ x < a.States), Bool.true_and]
     by_cases d3 : 0 < (j : Int)
     ·rw [if_pos d3, idx_prev hj (by omega) w.fin, decide_eq_false (show ¬ j = 0 by omega), Bool.false_or]
      simp only [Option.bind_some]
      by_cases d4 : x ≤ (a.Final[j - 1]?).getD 0
      ·rw [if_pos d4, decide_eq_false (by omega)]; rfl
      ·rw [if_neg d4, decide_eq_true (by omega)]; rfl
     ·rw [if_neg d3, decide_eq_true (show j = 0 by omega)]; rfl
    ·rw [decide_eq_false d2, decide_eq_false (show ¬ (0 ≤ x ∧ x < a.States) from fun h => d2 h.2)]; rfl
   ·rw [if_neg d1, decide_eq_false (show ¬ (0 ≤ x ∧ x < a.States) from fun h => d1 h.1)]; rfl)]
  cases allI (fOk a.Final a.States) 0 a.Final with
  | false => rfl
  | true =>
   simp only [if_true, Bool.true_and]
   rw [rangeL, if_pos w.rul]
   rw [chk (ok := fun _ x => rOk r a.States x) (f := some false) a.Rules 0 _ (fun j x n1 hj => by
    have hx := List.mem_of_getElem? hj
    unfold rOk
    by_cases d1 : x.Sym < 0
    ·rw [if_pos d1, decide_eq_false (fun h => by omega)]; rfl
    rw [if_neg d1]
    by_cases d2 : (r.length : Int) ≤ x.Sym
    ·rw [if_pos d2, decide_eq_false (fun h => by omega)]; rfl
    rw [if_neg d2, rk_get (by omega) (by omega)]
    simp only [Option.bind_some]
    by_cases d3 : (x.From.length : Int) = rk r x.Sym
    ·rw [if_pos d3, decide_eq_true (show 0 ≤ x.Sym ∧ x.Sym < (r.length : Int) ∧ (x.From.length : Int) = rk r x.Sym from ⟨by omega, by omega, d3⟩), Bool.true_and]
     unfold jn
     dsimp only
     have hfr : rangeL x.From () (fun k4 i4 x4 (s4 : Unit) n4 => if 0 ≤ x4 then (if decide (x4 < a.States) = true then n4 () else some false) else (if false = true then n4 () else some false)) (fun s4 => n1 ()) = if x.From.all (stOk a.States) = true then n1 () else some false := by
      rw [rangeL, if_pos (w.frm x hx)]
      rw [chk (ok := fun _ s => stOk a.States s) (f := some false) x.From 0 _ (fun j y n1 _ => by
       unfold stOk
       by_cases e1 : 0 ≤ y
       ·by_cases e2 : y < a.States
        ·simp [e1, e2]
        ·simp [e1, e2]
       ·simp [e1]), allI_all]
     by_cases d4 : 0 ≤ x.To
     ·rw [if_pos d4]
      by_cases d5 : x.To < a.States
      ·rw [decide_eq_true d5, if_pos rfl]
       rw [show stOk a.States x.To = true from decide_eq_true ⟨d4, d5⟩, Bool.true_and]
       exact hfr
      ·rw [decide_eq_false d5, show stOk a.States x.To = false from decide_eq_false (fun h => d5 h.2)]; rfl
     ·rw [if_neg d4, show stOk a.States x.To = false from decide_eq_false (fun h => d4 h.1)]; rfl
    ·rw [if_neg d3, decide_eq_false (show ¬ (0 ≤ x.Sym ∧ x.Sym < (r.length : Int) ∧ (x.From.length : Int) = rk r x.Sym) from fun h => d3 h.2.2)]; rfl), allI_all]
   cases a.Rules.all (rOk r a.States) <;> rfl
def fewB (r : List Int) (a : Automaton) (t : Tree) : Bool := decide ((tsT t : Int) ≤ 80) && (a.Rules.all (fun x => decide (x.From.length ≤ 30)) && (decide (r.length ≤ 60) && ((decide (a.States ≤ 40) || decide (300 < a.States)) && (decide (a.Rules.length ≤ 400) && decide (a.Final.length ≤ 400)))))
theorem few_eq {n : Nat} (r : List Int) (a : Automaton) (t : Tree) (w : AW a) (hd : tdT t < n) (hw : twT t = true) : law22_few n ⟨r⟩ a [t] = some (fewB r a t) := by
 unfold law22_few fewB
 rw [rangeL, if_pos (by simp only [List.length_cons, List.length_nil]; omega)]
 simp only [rangeC]
 rw [tfew_eq hd hw (by omega) (by omega)]
 simp only [Option.bind_some]
 cases decide ((tsT t : Int) ≤ 80) with
 | false => rfl
 | true =>
  simp only [if_true, Bool.true_and]
  rw [rangeL, if_pos w.rul]
  rw [chk (ok := fun _ x => decide (x.From.length ≤ 30)) (f := some false) a.Rules 0 _ (fun j x n1 hj => by
   by_cases e : 30 < (x.From.length : Int)
   ·rw [if_pos e, decide_eq_false (by omega)]; rfl
   ·rw [if_neg e, decide_eq_true (by omega)]; rfl), allI_all]
  cases a.Rules.all (fun x => decide (x.From.length ≤ 30)) with
  | false => rfl
  | true =>
   simp only [if_true, Bool.true_and]
   by_cases c1 : (r.length : Int) ≤ 60
   ·rw [if_pos c1, decide_eq_true (show r.length ≤ 60 by omega), Bool.true_and]
    have e3 : (if (a.Rules.length : Int) ≤ 400 then some (decide ((a.Final.length : Int) ≤ 400)) else some false) = some (decide (a.Rules.length ≤ 400) && decide (a.Final.length ≤ 400)) := by
     by_cases c3 : (a.Rules.length : Int) ≤ 400
     ·rw [if_pos c3, decide_eq_true (show a.Rules.length ≤ 400 by omega), Bool.true_and]
      congr 1
      by_cases c4 : a.Final.length ≤ 400
      ·rw [decide_eq_true (by omega), decide_eq_true c4]
      ·rw [decide_eq_false (by omega), decide_eq_false c4]
     ·rw [if_neg c3, decide_eq_false (show ¬ a.Rules.length ≤ 400 by omega)]; rfl
    by_cases c2 : a.States ≤ 40
    ·rw [if_pos c2, decide_eq_true c2, Bool.true_or, Bool.true_and]; exact e3
    ·rw [if_neg c2, decide_eq_false c2, Bool.false_or]
     by_cases c4 : 300 < a.States
     ·rw [if_pos c4, decide_eq_true c4, Bool.true_and]; exact e3
     ·rw [if_neg c4, decide_eq_false c4]; rfl
   ·rw [if_neg c1, decide_eq_false (show ¬ r.length ≤ 60 by omega)]; rfl
end Go.AM.S22

namespace Go.AM.S22
open Go Go.Proofs Go.AM
set_option linter.unusedVariables false
theorem td_mem : ∀ {l : List Tree} {x : Tree}, x ∈ l → tdT x + 1 ≤ tdL l
 | [], _, h => by cases h
 | y :: l, x, h => by
  rw [tdL]
  rcases List.mem_cons.1 h with rfl | h
  ·omega
  ·have := td_mem h; omega
theorem ts_mem : ∀ {l : List Tree} {x : Tree}, x ∈ l → tsT x ≤ tsL l
 | [], _, h => by cases h
 | y :: l, x, h => by
  rw [tsL]
  rcases List.mem_cons.1 h with rfl | h
  ·omega
  ·have := ts_mem h; omega
theorem foldC {α S R : Type} {body : Nat → α → S → (S → Option R) → Option R} {step : S → α → S} (I : S → Prop) : ∀ (l : List α) (i : Nat) (s : S) (k : S → Option R), I s → (∀ j x s n1, x ∈ l → I s → body j x s n1 = n1 (step s x)) → (∀ x s, x ∈ l → I s → I (step s x)) →
 rangeC body l i s k = k (l.foldl step s) ∧ I (l.foldl step s)
 | [], i, s, k, h, _, _ => ⟨by rw [rangeC]; rfl, h⟩
 | x :: l, i, s, k, h, hb, hi => by
  have ih := foldC I l (i + 1) (step s x) k (hi x s (by simp) h) (fun j y s n1 hy => hb j y s n1 (List.mem_cons_of_mem _ hy)) (fun y s hy => hi y s (List.mem_cons_of_mem _ hy))
  exact ⟨by rw [rangeC, hb i x s _ (by simp) h, List.foldl_cons]; exact ih.1, ih.2⟩
structure OKa (a : Automaton) : Prop where
 st : 0 ≤ a.States ∧ a.States ≤ 300
 rul : a.Rules.length ≤ 400
 fin : a.Final.length ≤ 400
 frm : ∀ x ∈ a.Rules, x.From.length ≤ 30
 to : ∀ x ∈ a.Rules, 0 ≤ x.To ∧ x.To < a.States
 from' : ∀ x ∈ a.Rules, ∀ s ∈ x.From, 0 ≤ s ∧ s < a.States
 fins : ∀ s ∈ a.Final, 0 ≤ s ∧ s < a.States
theorem idx_get {m : Nat} {α : Type} {row : List α} {z : α} {x : Int} (hr : row.length = m) (h0 : 0 ≤ x) (h1 : x < (m : Int)) : idx row x = some ((row[x.toNat]?).getD z) := by
 unfold idx
 rw [if_pos h0, List.getElem?_eq_getElem (by omega)]; rfl
theorem cut_eq {l base k : Nat} (hl : l = base + k) (hb : base ≤ 500) (hk : k ≤ 500) : cutM l (w64 ((l : Int) - (k : Int))) = some base := by
 rw [w64_eq (by omega) (by omega)]
 unfold cutM
 rw [if_pos (by omega)]
 congr 1
 omega
theorem allI_get {α : Type} {ok : Nat → α → Bool} : ∀ (l : List α) (i : Nat), allI ok i l = true → ∀ x ∈ l, ∃ j, ok j x = true
 | [], _, _, x, h => by cases h
 | y :: l, i, ha, x, h => by
  rw [allI, Bool.and_eq_true] at ha
  rcases List.mem_cons.1 h with rfl | h
  ·exact ⟨i, ha.1⟩
  ·exact allI_get l (i + 1) ha.2 x h
theorem stOk_iff {m s : Int} (h : stOk m s = true) : 0 ≤ s ∧ s < m := of_decide_eq_true h
theorem ok_of {r : List Int} {a : Automaton} {t : Tree} (hv : aV r a = true) (hf : fewB r a t = true) : OKa a := by
 unfold aV at hv
 unfold fewB at hf
 simp only [Bool.and_eq_true, decide_eq_true_eq, List.all_eq_true, Bool.or_eq_true] at hv hf
 obtain ⟨v1, ⟨v2, v3, v4⟩, v5, v6⟩ := hv
 obtain ⟨f1, f2, f3, f4, f5, f6⟩ := hf
 refine ⟨⟨v2, v3⟩, f5, f6, f2, fun x hx => ?_, fun x hx s hs => ?_, fun s hs => ?_⟩
 ·have := v6 x hx
  unfold rOk at this
  simp only [Bool.and_eq_true] at this
  exact stOk_iff this.2.1
 ·have := v6 x hx
  unfold rOk at this
  simp only [Bool.and_eq_true, List.all_eq_true] at this
  exact stOk_iff (this.2.2 s hs)
 ·obtain ⟨j, hj⟩ := allI_get _ _ v5 s hs
  unfold fOk at hj
  rw [Bool.and_eq_true] at hj
  exact stOk_iff hj.1
end Go.AM.S22

namespace Go.AM.S22.A3
open Go Go.Proofs Go.AM Go.AM.S22
set_option linter.unusedVariables false
set_option maxRecDepth 100000
set_option maxHeartbeats 4000000
structure OKa (r : List Int) (a : Automaton) : Prop where
 rk : r.length ≤ 12
 st : 0 ≤ a.States ∧ a.States ≤ 300
 rul : a.Rules.length ≤ 400
 fin : a.Final.length ≤ 400
 frm : ∀ x ∈ a.Rules, x.From.length ≤ 30
 sym : ∀ x ∈ a.Rules, 0 ≤ x.Sym ∧ x.Sym < r.length ∧ (x.From.length : Int) = S22.rk r x.Sym
 to : ∀ x ∈ a.Rules, 0 ≤ x.To ∧ x.To < a.States
 from' : ∀ x ∈ a.Rules, ∀ s ∈ x.From, 0 ≤ s ∧ s < a.States
 fins : ∀ s ∈ a.Final, 0 ≤ s ∧ s < a.States
mutual
def stT (a : Automaton) : Tree → Int → Bool
 | .mk s ks, q => a.Rules.any fun x => decide (x.Sym = s ∧ x.To = q) && stL a ks x.From
def stL (a : Automaton) : List Tree → List Int → Bool
 | [], _ => true
 | _ :: _, [] => true
 | k :: ks, f :: fs => stT a k f && stL a ks fs
end
theorem stT_eq (a : Automaton) (t : Tree) (q : Int) : stT a t q = a.Rules.any fun x => decide (x.Sym = t.Sym ∧ x.To = q) && stL a t.Kids x.From := by cases t; rw [stT]
theorem sh_parts {r : List Int} {t : Tree} (h : shT r t = true) : 0 ≤ t.Sym ∧ t.Sym < r.length ∧ (t.Kids.length : Int) = rk r t.Sym ∧ shL r t.Kids = true := by
 rw [shT_eq, Bool.and_eq_true] at h
 have := of_decide_eq_true h.1
 exact ⟨this.1, this.2.1, this.2.2, h.2⟩
theorem shL_cons {r : List Int} {t : Tree} {l : List Tree} (h : shL r (t :: l) = true) : shT r t = true ∧ shL r l = true := by
 rw [shL, Bool.and_eq_true] at h; exact h
def idxs (s : Int) : List Rule → Nat → List Int
 | [], _ => []
 | x :: l, i => if x.Sym = s then (i : Int) :: idxs s l (i + 1) else idxs s l (i + 1)
theorem idxs_len (s : Int) : ∀ (l : List Rule) (i : Nat), (idxs s l i).length ≤ l.length
 | [], _ => Nat.le_refl _
 | x :: l, i => by
  rw [idxs]
  have := idxs_len s l (i + 1)
  split
  ·rw [List.length_cons, List.length_cons]; omega
  ·rw [List.length_cons]; omega
theorem By_loop {N : Nat} {R : Type} : ∀ (l : List Rule) (i : Nat) (st : List (List Int)) (K : List (List Int) → Option R), (∀ x ∈ l, 0 ≤ x.Sym ∧ x.Sym < (N : Int)) → st.length = N → (∀ (k : Nat) l0, st[k]? = some l0 → l0.length + l.length ≤ 1000) →
 ∃ st', rangeC (fun i1 x1 (s1 : (List (List Int))) n1 =>
 (idxM N s1 x1.Sym).bind fun v3 =>
 (app 8 v3 [(i1 : Int)]).bind fun v4 =>
 n1 (List.set s1 ((x1.Sym).toNat) v4)) l i st K = K st' ∧ st'.length = N ∧ ∀ k : Nat, k < N → st'[k]? = some ((st[k]?).getD [] ++ idxs (k : Int) l i)
 | [], i, st, K, _, hN, _ => ⟨st, rfl, hN, fun k hk => by rw [idxs, List.append_nil, List.getElem?_eq_getElem (by omega)]; rfl⟩
 | x :: l, i, st, K, hx, hN, hb => by
  obtain ⟨h0, h1⟩ := hx x (by simp)
  obtain ⟨m, hm⟩ : ∃ m : Nat, x.Sym = m := ⟨x.Sym.toNat, by omega⟩
  have hmN : m < N := by omega
  have hg : st[m]? = some st[m] := List.getElem?_eq_getElem (by omega)
  have hlen := hb m _ hg
  rw [List.length_cons] at hlen
  have e1 : idxM N st x.Sym = some st[m] := by
   unfold idxM; rw [hm, if_pos ⟨by omega, by omega⟩, Int.toNat_natCast, hg]
  obtain ⟨st', e, h2, h3⟩ := By_loop (R := R) l (i + 1) (st.set m (st[m] ++ [(i : Int)])) K (fun y hy => hx y (List.mem_cons_of_mem _ hy)) (by rw [List.length_set]; exact hN) (fun k l0 hk => by
   rw [List.getElem?_set] at hk
   split at hk
   ·split at hk
    ·injection hk with hk; rw [← hk, List.length_append]; simp only [List.length_cons, List.length_nil]; omega
    ·cases hk
   ·have := hb k l0 hk; rw [List.length_cons] at this; omega)
  refine ⟨st', ?_, h2, fun k hk => ?_⟩
  ·rw [rangeC, e1, Option.bind_some, app_ok (by simp only [List.length_cons, List.length_nil]; omega), Option.bind_some, hm, Int.toNat_natCast]
   exact e
  ·rw [h3 k hk, List.getElem?_set, idxs, hm]
   by_cases c : m = k
   ·subst c
    rw [if_pos rfl, if_pos (by omega), if_pos rfl, hg]
    simp [List.append_assoc]
   ·rw [if_neg c, if_neg (by omega)]
theorem By_eq {r : List Int} {a : Automaton} (ha : OKa r a) : ∃ bl, auto_By ⟨r⟩ a = some bl ∧ ∀ s : Int, 0 ≤ s → s < r.length → idx bl s = some (idxs s a.Rules 0) := by
 have hrk := ha.rk
 have hrul := ha.rul
 obtain ⟨st', e, h2, h3⟩ := By_loop (N := r.length) a.Rules 0 (List.replicate r.length []) (fun s1 => (tkM r.length s1).bind fun v2 => some v2) (fun x hx => ⟨(ha.sym x hx).1, (ha.sym x hx).2.1⟩) (by simp) (fun k l0 hk => by
  have := (List.getElem?_replicate.symm.trans hk)
  split at this
  ·injection this with this; rw [← this]; simp; omega
  ·cases this)
 refine ⟨st', ?_, fun s h0 h1 => ?_⟩
 ·unfold auto_By
  have e1 : mkz 24 (r.length : Int) (r.length : Int) ([] : List Int) = some (List.replicate r.length []) := by
   unfold mkz; rw [if_pos ⟨by omega, by omega, by rw [Int.toNat_natCast]; omega⟩, Int.toNat_natCast]
  have e2 : tkM r.length st' = some st' := by
   unfold tkM; rw [if_pos (by omega), List.take_of_length_le (by omega)]
  show (mkz 24 (r.length : Int) (r.length : Int) ([] : List Int)).bind _ = _
  rw [e1, Option.bind_some, rangeL, if_pos (by omega)]
  show rangeC _ _ _ _ _ = _
  refine e.trans ?_
  rw [e2]; rfl
 ·obtain ⟨m, rfl⟩ : ∃ m : Nat, s = m := ⟨s.toNat, by omega⟩
  unfold idx
  rw [if_pos h0, Int.toNat_natCast, h3 m (by omega), List.getElem?_replicate, if_pos (by omega)]
  rfl
def rowT (a : Automaton) (t : Tree) : List Bool := (List.range a.States.toNat).map fun (q : Nat) => stT a t (q : Int)
theorem rowT_len (a : Automaton) (t : Tree) : (rowT a t).length = a.States.toNat := by simp [rowT]
theorem rowT_idx {a : Automaton} {t : Tree} {q : Int} (h0 : 0 ≤ q) (h1 : q < a.States) : idx (rowT a t) q = some (stT a t q) := by
 obtain ⟨m, rfl⟩ : ∃ m : Nat, q = m := ⟨q.toNat, by omega⟩
 unfold idx rowT
 rw [if_pos h0, Int.toNat_natCast, List.getElem?_map, List.getElem?_range (by omega)]; rfl
theorem fits_loop {a : Automaton} {rows : List (List Bool)} {R : Type} (F : Option R) : ∀ (f : List Int) (ks : List Tree) (i : Nat) (K : Unit → Option R), f.length = ks.length → rows.drop i = ks.map (rowT a) → (∀ s ∈ f, 0 ≤ s ∧ s < a.States) →
 rangeC (fun i5 x5 (s5 : Unit) n5 =>
  (rows[i5]?).bind fun v6 =>
  (idx v6 x5).bind fun v7 =>
  if v7 = true then
   n5 ()
  else
   F) f i () K = if stL a ks f = true then K () else F
 | [], [], i, K, _, _, _ => by rw [rangeC, stL, if_pos rfl]
 | [], _ :: _, _, _, h, _, _ => by cases h
 | _ :: _, [], _, _, h, _, _ => by cases h
 | s :: f, k :: ks, i, K, hl, hr, hs => by
  have hi : i < rows.length := by
   rcases Nat.lt_or_ge i rows.length with h | h
   ·exact h
   ·rw [List.drop_eq_nil_of_le h] at hr; cases hr
  rw [List.drop_eq_getElem_cons hi, List.map_cons] at hr
  injection hr with hr1 hr2
  obtain ⟨q1, q2⟩ := hs s (by simp)
  rw [rangeC, List.getElem?_eq_getElem hi, Option.bind_some, hr1, rowT_idx q1 q2, Option.bind_some, stL]
  by_cases c : stT a k s = true
  ·rw [if_pos c, c, Bool.true_and]
   exact fits_loop F f ks (i + 1) K (by simpa using hl) hr2 (fun x hx => hs x (List.mem_cons_of_mem _ hx))
  ·rw [if_neg c, Bool.eq_false_iff.2 c, Bool.false_and, if_neg (by simp)]
def stp (a : Automaton) (s : Int) (ks : List Tree) (st : List Bool) (x : Rule) : List Bool := if x.Sym = s then (if stL a ks x.From = true then st.set x.To.toNat true else st) else st
theorem stp_len (a : Automaton) (s : Int) (ks : List Tree) : ∀ (l : List Rule) (st : List Bool), (l.foldl (stp a s ks) st).length = st.length
 | [], _ => rfl
 | x :: l, st => by
  rw [List.foldl_cons, stp_len a s ks l]
  unfold stp
  split
  ·split
   ·rw [List.length_set]
   ·rfl
  ·rfl
theorem stp_get (a : Automaton) (s : Int) (ks : List Tree) (q : Nat) : ∀ (l : List Rule) (st : List Bool), (∀ x ∈ l, 0 ≤ x.To) → q < st.length → ((l.foldl (stp a s ks) st)[q]?).getD false = ((st[q]?).getD false || l.any fun x => decide (x.Sym = s ∧ x.To = (q : Int)) && stL a ks x.From)
 | [], st, _, _ => by simp
 | x :: l, st, hx, hq => by
  have h0 := hx x (by simp)
  have hlen : (stp a s ks st x).length = st.length := stp_len a s ks [x] st
  rw [List.foldl_cons, stp_get a s ks q l _ (fun y hy => hx y (List.mem_cons_of_mem _ hy)) (by omega), List.any_cons]
  unfold stp
  by_cases c1 : x.Sym = s
  ·rw [if_pos c1]
   by_cases c2 : stL a ks x.From = true
   ·rw [if_pos c2, c2, Bool.and_true, List.getElem?_set]
    by_cases c3 : x.To.toNat = q
    ·rw [if_pos c3, if_pos (by omega), decide_eq_true (show x.Sym = s ∧ x.To = (q : Int) from ⟨c1, by omega⟩)]
     simp
    ·rw [if_neg c3, decide_eq_false (show ¬ (x.Sym = s ∧ x.To = (q : Int)) from fun h => c3 (by omega)), Bool.false_or]
   ·rw [if_neg c2, Bool.eq_false_iff.2 c2, Bool.and_false, Bool.false_or]
  ·rw [if_neg c1, decide_eq_false (show ¬ (x.Sym = s ∧ x.To = (q : Int)) from fun h => c1 h.1), Bool.false_and, Bool.false_or]
theorem row_fold {r : List Int} {a : Automaton} (ha : OKa r a) (t : Tree) : a.Rules.foldl (stp a t.Sym t.Kids) (List.replicate a.States.toNat false) = rowT a t := by
 apply List.ext_getElem?
 intro q
 by_cases hq : q < a.States.toNat
 ·have h1 := stp_get a t.Sym t.Kids q a.Rules (List.replicate a.States.toNat false) (fun x hx => (ha.to x hx).1) (by simpa using hq)
  have hl : q < (a.Rules.foldl (stp a t.Sym t.Kids) (List.replicate a.States.toNat false)).length := by rw [stp_len]; simpa using hq
  rw [List.getElem?_eq_getElem hl] at h1 ⊢
  rw [List.getElem?_eq_getElem (by rw [rowT_len]; exact hq)]
  congr 1
  rw [Option.getD_some] at h1
  rw [h1]
  simp only [rowT, List.getElem_map, List.getElem_range]
  rw [stT_eq, List.getElem?_replicate, if_pos hq]
  rfl
 ·rw [List.getElem?_eq_none (by rw [stp_len]; simp; omega), List.getElem?_eq_none (by rw [rowT_len]; omega)]
theorem rules_loop {r : List Int} {a : Automaton} (ha : OKa r a) {ks : List Tree} {s : Int} {rows : List (List Bool)} (hrows : rows = ks.map (rowT a)) (hrk : (ks.length : Int) = rk r s) {R : Type} : ∀ (l : List Rule) (i0 j : Nat) (st : List Bool) (K : List Bool → Option R), a.Rules.drop i0 = l → st.length = a.States.toNat →
 rangeC (fun i4 x4 (s4 : (List Bool)) n4 =>
  (idx a.Rules x4).bind fun v4 =>
  rangeL v4.From () (fun k5 i5 x5 (s5 : Unit) n5 =>
   (rows[i5]?).bind fun v6 =>
   (idx v6 x5).bind fun v7 =>
   if v7 = true then
    n5 ()
   else
    n4 s4) fun s5 =>
  (idxM ((a.States).toNat) s4 v4.To).bind fun v5 =>
  n4 (List.set s4 ((v4.To).toNat) true)) (idxs s l i0) j st K = K (l.foldl (stp a s ks) st)
 | [], i0, j, st, K, _, _ => by rw [idxs, rangeC]; rfl
 | x :: l, i0, j, st, K, hd, hst => by
  have hi : i0 < a.Rules.length := by
   rcases Nat.lt_or_ge i0 a.Rules.length with h | h
   ·exact h
   ·rw [List.drop_eq_nil_of_le h] at hd; cases hd
  have hd' := hd
  rw [List.drop_eq_getElem_cons hi] at hd'
  injection hd' with hx hd2
  have hmem : x ∈ a.Rules := by rw [← hx]; exact List.getElem_mem hi
  have hst2 := ha.to x hmem
  have hsy := ha.sym x hmem
  have hfr := ha.frm x hmem
  rw [idxs, List.foldl_cons]
  by_cases c1 : x.Sym = s
  ·rw [if_pos c1, rangeC]
   have e1 : idx a.Rules (i0 : Int) = some x := by unfold idx; rw [if_pos (by omega), Int.toNat_natCast, List.getElem?_eq_getElem hi, hx]
   rw [e1, Option.bind_some, rangeL, if_pos (by omega), fits_loop _ x.From ks 0 _ (by have := hsy.2.2; rw [c1] at this; omega) (by rw [hrows, List.drop_zero]) (fun y hy => ha.from' x hmem y hy)]
   by_cases c2 : stL a ks x.From = true
   ·rw [if_pos c2]
    have e2 : idxM a.States.toNat st x.To = some st[x.To.toNat] := by
     unfold idxM; rw [if_pos ⟨hst2.1, by omega⟩, List.getElem?_eq_getElem (by omega)]
    rw [e2, Option.bind_some]
    have := rules_loop ha hrows hrk l (i0 + 1) (j + 1) (st.set x.To.toNat true) K hd2 (by rw [List.length_set]; exact hst)
    have es : stp a s ks st x = st.set x.To.toNat true := by unfold stp; rw [if_pos c1, if_pos c2]
    rw [es]
    exact this
   ·rw [if_neg c2]
    have := rules_loop ha hrows hrk l (i0 + 1) (j + 1) st K hd2 hst
    have es : stp a s ks st x = st := by unfold stp; rw [if_pos c1, if_neg c2]
    rw [es]
    exact this
  ·rw [if_neg c1]
   have es : stp a s ks st x = st := by unfold stp; rw [if_neg c1]
   rw [es]
   exact rules_loop ha hrows hrk l (i0 + 1) j st K hd2 hst
mutual
def setsF (a : Automaton) : Tree → List (List Bool)
 | .mk s ks => rowT a (.mk s ks) :: flatF a ks
def flatF (a : Automaton) : List Tree → List (List Bool)
 | [] => []
 | k :: ks => setsF a k ++ flatF a ks
end
theorem setsF_eq (a : Automaton) (t : Tree) : setsF a t = rowT a t :: flatF a t.Kids := by cases t; rw [setsF]
mutual
theorem setsF_len (a : Automaton) : ∀ t : Tree, (setsF a t).length = tsT t
 | .mk s ks => by rw [setsF, List.length_cons, flatF_len a ks, tsT]; omega
theorem flatF_len (a : Automaton) : ∀ ks : List Tree, (flatF a ks).length = tsL ks
 | [] => rfl
 | k :: ks => by rw [flatF, List.length_append, setsF_len a k, flatF_len a ks, tsL]
end
theorem sets_eq {r : List Int} {a : Automaton} (ha : OKa r a) {bl : List (List Int)} (hbl : ∀ s : Int, 0 ≤ s → s < r.length → idx bl s = some (idxs s a.Rules 0)) : ∀ (n : Nat) (t : Tree), tdT t < n → shT r t = true → tsT t ≤ 300 → auto_sets n a bl t = some (setsF a t)
 | 0, _, h, _, _ => by omega
 | n + 1, t, hd, hs, hl => by
  rw [tdT_eq] at hd
  have hts := tsT_eq t
  have htl := tlen t.Kids
  have hst := ha.st
  obtain ⟨s1, s2, s3, s4⟩ := sh_parts hs
  unfold auto_sets
  have e1 : mkz 1 a.States a.States false = some (List.replicate a.States.toNat false) := by unfold mkz; rw [if_pos ⟨by omega, by omega, by omega⟩]
  rw [e1, Option.bind_some, rangeL, if_pos (by omega)]
  have H : ∀ (ks : List Tree) (i : Nat) (fl ro : List (List Bool)) (K : List (List Bool) × List (List Bool) → Option (List (List Bool))), tdL ks < n + 1 → shL r ks = true → tsL ks ≤ 300 → fl.length ≤ 1000000 - 2 * tsL ks → ro.length + ks.length ≤ 1000 →
   rangeC (fun i1 x1 (s1 : (List (List Bool)) × (List (List Bool))) n1 =>
    (auto_sets n a bl x1).bind fun v8 =>
    (v8[0]?).bind fun v9 =>
    (app 24 s1.2 [v9]).bind fun v10 =>
    (app 24 (([] : List Bool) :: s1.1) v8).bind fun v11 =>
    n1 ((List.tail v11), v10)) ks i (fl, ro) K = K (fl ++ flatF a ks, ro ++ ks.map (rowT a)) := by
   intro ks
   induction ks with
   | nil => intro i fl ro K _ _ _ _ _; rw [rangeC, flatF, List.append_nil, List.map_nil, List.append_nil]
   | cons k ks ih =>
    intro i fl ro K h1 h2 h3 h4 h5
    obtain ⟨d1, d2⟩ := tdL_cons h1
    obtain ⟨q1, q2⟩ := shL_cons h2
    rw [tsL] at h3 h4
    rw [List.length_cons] at h5
    have hk := setsF_len a k
    rw [rangeC, sets_eq ha hbl n k d1 q1 (by omega), Option.bind_some]
    have e0 : (setsF a k)[0]? = some (rowT a k) := by rw [setsF_eq]; rfl
    rw [e0, Option.bind_some]
    simp only []
    rw [app_ok (by simp only [List.length_cons, List.length_nil]; omega), Option.bind_some, app_ok (by simp only [List.length_cons]; omega), Option.bind_some]
    show rangeC _ ks (i + 1) _ K = _
    rw [List.cons_append, List.tail_cons, ih (i + 1) _ _ K d2 q2 (by omega) (by rw [List.length_append]; omega) (by simp only [List.length_append, List.length_cons, List.length_nil]; omega), flatF, List.map_cons, List.append_assoc, List.append_assoc]
    rfl
  rw [H t.Kids 0 [] [] _ hd s4 (by omega) (by simp) (by simp; omega)]
  simp only [List.nil_append]
  rw [hbl _ s1 s2, Option.bind_some, rangeL, if_pos (by have := idxs_len t.Sym a.Rules 0; have := ha.rul; omega)]
  rw [rules_loop ha rfl s3 a.Rules 0 0 _ _ rfl (by simp), row_fold ha]
  have e3 : tkM a.States.toNat (rowT a t) = some (rowT a t) := by
   unfold tkM; rw [if_pos (by rw [rowT_len]; omega), List.take_of_length_le (by rw [rowT_len]; omega)]
  rw [e3, Option.bind_some, setsF_eq]
end Go.AM.S22.A3

namespace Go.AM.S22
open Go Go.Proofs Go.AM
set_option linter.unusedVariables false
def lexI : List Int → List Int → Int
 | [], [] => 0
 | [], _ :: _ => -1
 | _ :: _, [] => 1
 | a :: x, b :: y => if ord a b = 0 then lexI x y else ord a b
def lexLL : List (List Int) → List (List Int) → Int
 | a :: x, b :: y => if lexI a b = 0 then lexLL x y else lexI a b
 | _, _ => 0
theorem compare_lex (a b : List Int) (h : a.length < 9223372036854775808) : slices_Compare_Lint_int a b = some (lexI a b) := by
 unfold slices_Compare_Lint_int
 rw [rangeL, if_pos h]
 suffices H : ∀ (us p vs : List Int), b = p ++ vs → a.length = p.length + us.length → rangeC (fun i1 x1 (s1 : Unit) n1 => if (b.length : Int) ≤ (i1 : Int) then some 1 else (b[i1]?).bind fun v1 => (cmp_Compare_int x1 v1).bind fun v2 => if v2 = 0 then n1 () else some v2) us p.length () (fun _ => if (a.length : Int) < (b.length : Int) then some (-1) else some 0) = some (lexI us vs) by
  exact H a [] b rfl (by simp)
 intro us
 induction us with
 | nil =>
  intro p vs e hl
  rw [List.length_nil] at hl
  have hb : b.length = p.length + vs.length := by rw [e, List.length_append]
  rw [rangeC]
  cases vs with
  | nil => rw [List.length_nil] at hb; rw [if_neg (by omega), lexI]
  | cons v vs => rw [List.length_cons] at hb; rw [if_pos (by omega), lexI]
 | cons x us ih =>
  intro p vs e hl
  have hb : b.length = p.length + vs.length := by rw [e, List.length_append]
  rw [List.length_cons] at hl
  rw [rangeC]
  cases vs with
  | nil => rw [List.length_nil] at hb; rw [if_pos (by omega), lexI]
  | cons v vs =>
   rw [List.length_cons] at hb
   rw [if_neg (by omega)]
   rw [show b[p.length]? = some v by rw [e, List.getElem?_append_right (Nat.le_refl _), Nat.sub_self]; rfl]
   simp only [Option.bind_some]
   rw [compare_int]
   simp only [Option.bind_some]
   rw [lexI]
   by_cases c : ord x v = 0
   ·rw [if_pos c, if_pos c]
    have := ih (p ++ [v]) vs (by rw [e]; simp) (by rw [List.length_append]; simp; omega)
    rw [List.length_append] at this
    exact this
   ·rw [if_neg c, if_neg c]
def cutB (c d : ref22_cut) : Bool := if d.some = true then (if c.nodes = d.nodes then (if c.l.length = d.l.length then decide (lexLL c.l d.l < 0) else decide (c.l.length < d.l.length)) else decide (c.nodes < d.nodes)) else true
structure SmL (l : List (List Int)) : Prop where
 n : l.length ≤ 1000
 e : ∀ p ∈ l, p.length ≤ 1000
theorem fewer_eq (c d : ref22_cut) (hc : SmL c.l) (k : Bool) : repair_fewer ⟨k, c.nodes, c.l⟩ ⟨d.some, d.nodes, d.l⟩ = some (cutB c d) := by
 unfold repair_fewer cutB
 simp only []
 by_cases c1 : d.some = true
 ·rw [if_pos c1, if_pos c1]
  by_cases c2 : c.nodes = d.nodes
  ·rw [if_pos c2, if_pos c2]
   by_cases c3 : c.l.length = d.l.length
   ·rw [if_pos (by omega), if_pos c3]
    unfold jn
    have hn := hc.n
    simp only []
    rw [rangeL, if_pos (by omega)]
    suffices H : ∀ (us p vs : List (List Int)), d.l = p ++ vs → us.length = vs.length → (∀ u ∈ us, u.length ≤ 1000) → rangeC (fun i1 x1 (s1 : Unit) n1 => if (d.l.length : Int) ≤ (i1 : Int) then some (decide ((1 : Int) < 0)) else (d.l[i1]?).bind fun v1 => (repair_fewer_1 x1 v1).bind fun v2 => if v2 = 0 then n1 () else some (decide (v2 < 0))) us p.length () (fun _ => if (c.l.length : Int) < (d.l.length : Int) then some (decide ((-1 : Int) < 0)) else some (decide ((0 : Int) < 0))) = some (decide (lexLL us vs < 0)) by
     exact H c.l [] d.l rfl c3 hc.e
    intro us
    induction us with
    | nil =>
     intro p vs e _ _
     rw [rangeC, lexLL, if_neg (by omega)]
     exact fun _ _ _ _ h => by cases h
    | cons u us ih =>
     intro p vs e hl hu
     cases vs with
     | nil => simp at hl
     | cons v vs =>
      have h1 := hu u (by simp)
      rw [rangeC, if_neg (by rw [e]; simp only [List.length_append, List.length_cons]; omega), show d.l[p.length]? = some v by rw [e, List.getElem?_append_right (Nat.le_refl _), Nat.sub_self]; rfl]
      simp only [Option.bind_some]
      unfold repair_fewer_1
      rw [compare_lex u v (by omega)]
      simp only [Option.bind_some]
      rw [lexLL]
      by_cases c : lexI u v = 0
      ·rw [if_pos c, if_pos c]
       have := ih (p ++ [v]) vs (by rw [e]; simp) (by simpa using hl) (fun w hw => hu w (List.mem_cons_of_mem _ hw))
       rw [List.length_append] at this
       exact this
      ·rw [if_neg c, if_neg c]
   ·rw [if_neg (by omega), if_neg c3]
    congr 1
    by_cases c4 : c.l.length < d.l.length
    ·rw [decide_eq_true (by omega), decide_eq_true c4]
    ·rw [decide_eq_false (by omega), decide_eq_false c4]
  ·rw [if_neg c2, if_neg c2]
 ·rw [if_neg c1, if_neg c1]
end Go.AM.S22

namespace Go.AM.S22
open Go Go.Proofs Go.AM
set_option linter.unusedVariables false
def plusI (a b : Int) : Int := if 4611686018427387904 ≤ a + b then 4611686018427387904 else a + b
theorem eplus_eq {a b : Int} (a0 : 0 ≤ a) (a1 : a ≤ 4611686018427387904) (b0 : 0 ≤ b) (b1 : b ≤ 4611686018427387904) : empty_plus a b = some (plusI a b) := by
 unfold empty_plus plusI
 by_cases c1 : 4611686018427387904 ≤ a
 ·rw [if_pos c1, if_pos (by omega)]
 ·rw [if_neg c1]
  by_cases c2 : 4611686018427387904 ≤ b
  ·rw [if_pos c2, if_pos (by omega)]
  ·rw [if_neg c2, w64_eq (by omega) (by omega)]
   unfold minI
   split <;> split <;> first | rfl | (congr 1; omega)
theorem rplus_eq {a b : Int} (a0 : 0 ≤ a) (a1 : a ≤ 4611686018427387904) (b0 : 0 ≤ b) (b1 : b ≤ 4611686018427387904) : ref06_plus a b = some (plusI a b) := by
 unfold ref06_plus plusI
 rw [w64_eq (by omega) (by omega)]
 by_cases c1 : 4611686018427387904 - b < a
 ·rw [if_pos c1, if_pos (by omega)]
 ·rw [if_neg c1, w64_eq (by omega) (by omega)]
  split
  ·congr 1; omega
  ·rfl
def gz (v : List Int) (x : Int) : Int := (v[x.toNat]?).getD 0
def sumZ (v : List Int) : List Int → Int → Int
 | [], s => s
 | x :: xs, s => if gz v x = 0 then 0 else sumZ v xs (plusI s (gz v x))
structure ZV (m : Nat) (v : List Int) : Prop where
 len : v.length = m
 bd : ∀ x ∈ v, 0 ≤ x ∧ x ≤ 4611686018427387904
theorem ZV.gz {m : Nat} {v : List Int} (h : ZV m v) (x : Int) : 0 ≤ gz v x ∧ gz v x ≤ 4611686018427387904 := by
 unfold S22.gz
 cases e : v[x.toNat]? with
 | none => simp
 | some y => exact h.bd y (List.mem_of_getElem? e)
theorem ZV.idxM {m : Nat} {v : List Int} (h : ZV m v) {x : Int} (h0 : 0 ≤ x) (h1 : x < (m : Int)) : idxM m v x = some (S22.gz v x) := by
 unfold Go.AM.idxM S22.gz
 rw [if_pos (by omega), List.getElem?_eq_getElem (by rw [h.len]; omega)]; rfl
theorem plusI_bd {a b : Int} (a0 : 1 ≤ a) (b0 : 0 ≤ b) : 1 ≤ plusI a b ∧ plusI a b ≤ 4611686018427387904 := by
 unfold plusI; split <;> omega
theorem sumZ_bd {m : Nat} {v : List Int} (h : ZV m v) : ∀ (xs : List Int) (s : Int), 1 ≤ s → s ≤ 4611686018427387904 → 0 ≤ sumZ v xs s ∧ sumZ v xs s ≤ 4611686018427387904 ∧ (0 < sumZ v xs s ↔ ∀ x ∈ xs, 0 < gz v x)
 | [], s, h1, h2 => by rw [sumZ]; exact ⟨by omega, h2, ⟨fun _ _ h => by (cases h), fun _ => by omega⟩⟩
 | x :: xs, s, h1, h2 => by
  have hg := h.gz x
  rw [sumZ]
  by_cases c : gz v x = 0
  ·rw [if_pos c]
   refine ⟨by omega, by omega, ⟨fun h => by omega, fun h => ?_⟩⟩
   have := h x (by simp)
   omega
  ·rw [if_neg c]
   have hb := plusI_bd h1 hg.1
   obtain ⟨i1, i2, i3⟩ := sumZ_bd h xs (plusI s (gz v x)) hb.1 hb.2
   refine ⟨i1, i2, i3.trans ⟨fun h y hy => ?_, fun h y hy => h y (List.mem_cons_of_mem _ hy)⟩⟩
   rcases List.mem_cons.1 hy with rfl | hy
   ·omega
   ·exact h y hy
theorem eInner {m : Nat} {v : List Int} (h : ZV m v) {R : Type} (F : Option R) (k : Int → Option R) : ∀ (xs : List Int) (i : Nat) (s : Int), (∀ x ∈ xs, 0 ≤ x ∧ x < (m : Int)) → 1 ≤ s → s ≤ 4611686018427387904 →
 rangeC (fun i13 x13 (s13 : Int) n13 => (idxM m v x13).bind fun v4 => if v4 = 0 then F else (empty_plus s13 v4).bind fun v5 => n13 v5) xs i s k = if 0 < sumZ v xs s then k (sumZ v xs s) else F
 | [], i, s, _, h1, h2 => by rw [rangeC, sumZ, if_pos (by omega)]
 | x :: xs, i, s, hx, h1, h2 => by
  have hxx := hx x (by simp)
  have hg := h.gz x
  rw [rangeC, h.idxM hxx.1 hxx.2, sumZ]
  simp only [Option.bind_some]
  by_cases c : gz v x = 0
  ·rw [if_pos c, if_pos c, if_neg (by omega)]
  ·rw [if_neg c, if_neg c, eplus_eq (by omega) h2 hg.1 hg.2]
   simp only [Option.bind_some]
   have hb := plusI_bd h1 hg.1
   exact eInner h F k xs (i + 1) _ (fun y hy => hx y (List.mem_cons_of_mem _ hy)) hb.1 hb.2
theorem rInner {m : Nat} {v : List Int} (h : ZV m v) {R : Type} (k : Int → Option R) : ∀ (xs : List Int) (i : Nat) (s : Int), (∀ x ∈ xs, 0 ≤ x ∧ x < (m : Int)) → 1 ≤ s → s ≤ 4611686018427387904 →
 rangeC (fun i13 x13 (s13 : Int) n13 => (idxM m v x13).bind fun v4 => if v4 = 0 then k 0 else (ref06_plus s13 v4).bind fun v5 => n13 v5) xs i s k = k (sumZ v xs s)
 | [], i, s, _, h1, h2 => by rw [rangeC, sumZ]
 | x :: xs, i, s, hx, h1, h2 => by
  have hxx := hx x (by simp)
  have hg := h.gz x
  rw [rangeC, h.idxM hxx.1 hxx.2, sumZ]
  simp only [Option.bind_some]
  by_cases c : gz v x = 0
  ·rw [if_pos c, if_pos c]
  ·rw [if_neg c, if_neg c, rplus_eq (by omega) h2 hg.1 hg.2]
   simp only [Option.bind_some]
   have hb := plusI_bd h1 hg.1
   exact rInner h k xs (i + 1) _ (fun y hy => hx y (List.mem_cons_of_mem _ hy)) hb.1 hb.2
def stepZ (s : Bool × List Int) (x : Rule) : Bool × List Int :=
 if 0 < sumZ s.2 x.From 1 then (if gz s.2 x.To = 0 then (true, s.2.set x.To.toNat (sumZ s.2 x.From 1)) else if sumZ s.2 x.From 1 < gz s.2 x.To then (true, s.2.set x.To.toNat (sumZ s.2 x.From 1)) else (s.1, s.2)) else (s.1, s.2)
def passZ (a : Automaton) (v : List Int) : Bool × List Int := a.Rules.foldl stepZ (false, v)
theorem ZV.set {m : Nat} {v : List Int} (h : ZV m v) (i : Nat) {s : Int} (h0 : 0 ≤ s) (h1 : s ≤ 4611686018427387904) : ZV m (v.set i s) :=
 ⟨by rw [List.length_set, h.len], fun x hx => by
  rcases List.mem_or_eq_of_mem_set hx with hx | rfl
  ·exact h.bd x hx
  ·exact ⟨h0, h1⟩⟩
theorem stepZ_ZV {m : Nat} {s : Bool × List Int} (h : ZV m s.2) (x : Rule) : ZV m (stepZ s x).2 := by
 have hb := sumZ_bd h x.From 1 (by omega) (by omega)
 unfold stepZ
 split
 ·split
  ·exact h.set _ hb.1 hb.2.1
  ·split
   ·exact h.set _ hb.1 hb.2.1
   ·exact h
 ·exact h
theorem foldZ_ZV {m : Nat} : ∀ (l : List Rule) (s : Bool × List Int), ZV m s.2 → ZV m (l.foldl stepZ s).2
 | [], _, h => h
 | x :: l, s, h => foldZ_ZV l _ (stepZ_ZV h x)
theorem passZ_ZV {m : Nat} {a : Automaton} {v : List Int} (h : ZV m v) : ZV m (passZ a v).2 := foldZ_ZV _ _ h
def mesV : List Int → Nat
 | [] => 0
 | x :: v => (if x = 0 then 4611686018427387905 else x.toNat) + mesV v
theorem mes_set : ∀ (v : List Int) (i : Nat) (x s : Int), v[i]? = some x → 1 ≤ s → s ≤ 4611686018427387904 → 0 ≤ x → (x = 0 ∨ s < x) → mesV (v.set i s) < mesV v
 | [], i, x, s, h, _, _, _, _ => by simp at h
 | y :: v, 0, x, s, h, h1, h2, h3, h4 => by
  have : y = x := by simpa using h
  subst this
  rw [List.set_cons_zero, mesV, mesV, if_neg (by omega)]
  split <;> omega
 | y :: v, i + 1, x, s, h, h1, h2, h3, h4 => by
  have := mes_set v i x s (by simpa using h) h1 h2 h3 h4
  rw [List.set_cons_succ, mesV, mesV]
  omega
theorem stepZ_mes {m : Nat} {s : Bool × List Int} (h : ZV m s.2) {x : Rule} (hx : 0 ≤ x.To ∧ x.To < (m : Int)) : stepZ s x = s ∨ ((stepZ s x).1 = true ∧ mesV (stepZ s x).2 < mesV s.2) := by
 have hb := sumZ_bd h x.From 1 (by omega) (by omega)
 have hg := h.gz x.To
 have he : s.2[x.To.toNat]? = some (gz s.2 x.To) := by
  unfold gz
  rw [List.getElem?_eq_getElem (by rw [h.len]; omega)]; rfl
 unfold stepZ
 by_cases c1 : 0 < sumZ s.2 x.From 1
 ·rw [if_pos c1]
  by_cases c2 : gz s.2 x.To = 0
  ·rw [if_pos c2]
   exact .inr ⟨rfl, mes_set _ _ _ _ he (by omega) hb.2.1 hg.1 (.inl c2)⟩
  ·rw [if_neg c2]
   by_cases c3 : sumZ s.2 x.From 1 < gz s.2 x.To
   ·rw [if_pos c3]
    exact .inr ⟨rfl, mes_set _ _ _ _ he (by omega) hb.2.1 hg.1 (.inr c3)⟩
   ·rw [if_neg c3]; exact .inl rfl
 ·rw [if_neg c1]; exact .inl rfl
theorem foldZ_mes {m : Nat} : ∀ (l : List Rule) (s : Bool × List Int), ZV m s.2 → (∀ x ∈ l, 0 ≤ x.To ∧ x.To < (m : Int)) → l.foldl stepZ s = s ∨ ((l.foldl stepZ s).1 = true ∧ mesV (l.foldl stepZ s).2 < mesV s.2)
 | [], s, _, _ => .inl rfl
 | x :: l, s, h, hx => by
  rw [List.foldl_cons]
  have ih := foldZ_mes l (stepZ s x) (stepZ_ZV h x) (fun y hy => hx y (List.mem_cons_of_mem _ hy))
  rcases stepZ_mes h (hx x (by simp)) with e | ⟨e1, e2⟩
  ·rw [e] at ih ⊢; exact ih
  ·rcases ih with e3 | ⟨e3, e4⟩
   ·rw [e3]; exact .inr ⟨e1, e2⟩
   ·exact .inr ⟨e3, by omega⟩
theorem passZ_mes {m : Nat} {a : Automaton} {v : List Int} (h : ZV m v) (hx : ∀ x ∈ a.Rules, 0 ≤ x.To ∧ x.To < (m : Int)) : passZ a v = (false, v) ∨ ((passZ a v).1 = true ∧ mesV (passZ a v).2 < mesV v) := foldZ_mes _ _ h hx
def posV (v : List Int) : List Bool := v.map fun x => decide (0 < x)
def gb (b : List Bool) (x : Int) : Bool := (b[x.toNat]?).getD false
theorem gb_pos (v : List Int) (x : Int) : gb (posV v) x = decide (0 < gz v x) := by
 unfold gb posV gz
 rw [List.getElem?_map]
 cases v[x.toNat]? with
 | none => rfl
 | some y => rfl
def bstep (b : List Bool) (x : Rule) : List Bool := if x.From.all (fun y => gb b y) = true then b.set x.To.toNat true else b
def bpass (a : Automaton) (b : List Bool) : List Bool := a.Rules.foldl bstep b
theorem pos_step {m : Nat} {s : Bool × List Int} (h : ZV m s.2) {x : Rule} (hx : 0 ≤ x.To ∧ x.To < (m : Int)) : posV (stepZ s x).2 = bstep (posV s.2) x := by
 have hb := sumZ_bd h x.From 1 (by omega) (by omega)
 have hg := h.gz x.To
 have hall : (x.From.all (fun y => gb (posV s.2) y) = true) ↔ 0 < sumZ s.2 x.From 1 := by
  rw [hb.2.2, List.all_eq_true]
  constructor
  ·intro h y hy
   have := h y hy
   rw [gb_pos] at this
   exact of_decide_eq_true this
  ·intro h y hy
   rw [gb_pos]
   exact decide_eq_true (h y hy)
 have hset : ∀ q : Int, 0 < q → posV (s.2.set x.To.toNat q) = (posV s.2).set x.To.toNat true := fun q hq => by
  unfold posV
  rw [List.map_set, decide_eq_true hq]
 unfold stepZ bstep
 by_cases c1 : 0 < sumZ s.2 x.From 1
 ·rw [if_pos c1, if_pos (hall.2 c1)]
  by_cases c2 : gz s.2 x.To = 0
  ·rw [if_pos c2]; exact hset _ c1
  ·rw [if_neg c2]
   by_cases c3 : sumZ s.2 x.From 1 < gz s.2 x.To
   ·rw [if_pos c3]; exact hset _ c1
   ·rw [if_neg c3]
    simp only []
    rw [← hset (gz s.2 x.To) (by omega)]
    congr 1
    unfold gz
    have hlt : x.To.toNat < s.2.length := by rw [h.len]; omega
    rw [List.getElem?_eq_getElem hlt, Option.getD_some, List.set_getElem_self]
 ·rw [if_neg c1, if_neg (fun h => c1 (hall.1 h))]
theorem pos_fold {m : Nat} : ∀ (l : List Rule) (s : Bool × List Int), ZV m s.2 → (∀ x ∈ l, 0 ≤ x.To ∧ x.To < (m : Int)) → posV (l.foldl stepZ s).2 = l.foldl bstep (posV s.2)
 | [], _, _, _ => rfl
 | x :: l, s, h, hx => by
  rw [List.foldl_cons, List.foldl_cons, ← pos_step h (hx x (by simp))]
  exact pos_fold l _ (stepZ_ZV h x) (fun y hy => hx y (List.mem_cons_of_mem _ hy))
theorem pos_pass {m : Nat} {a : Automaton} {v : List Int} (h : ZV m v) (hx : ∀ x ∈ a.Rules, 0 ≤ x.To ∧ x.To < (m : Int)) : posV (passZ a v).2 = bpass a (posV v) := pos_fold _ _ h hx
def cntB : List Bool → Nat
 | [] => 0
 | x :: b => (if x = true then 1 else 0) + cntB b
theorem cnt_le : ∀ b, cntB b ≤ b.length
 | [] => by rw [cntB]; exact Nat.zero_le _
 | x :: b => by rw [cntB, List.length_cons]; have := cnt_le b; split <;> omega
theorem cnt_set : ∀ (b : List Bool) (i : Nat), b.set i true = b ∨ cntB b < cntB (b.set i true)
 | [], i => .inl rfl
 | x :: b, 0 => by
  rw [List.set_cons_zero, cntB, cntB]
  cases x with
  | true => exact .inl rfl
  | false => exact .inr (by simp)
 | x :: b, i + 1 => by
  rw [List.set_cons_succ, cntB, cntB]
  rcases cnt_set b i with e | e
  ·rw [e]; exact .inl rfl
  ·exact .inr (by omega)
theorem cnt_step (b : List Bool) (x : Rule) : bstep b x = b ∨ cntB b < cntB (bstep b x) := by
 unfold bstep
 split
 ·exact cnt_set _ _
 ·exact .inl rfl
theorem cnt_fold : ∀ (l : List Rule) (b : List Bool), l.foldl bstep b = b ∨ cntB b < cntB (l.foldl bstep b)
 | [], _ => .inl rfl
 | x :: l, b => by
  rw [List.foldl_cons]
  rcases cnt_step b x with e | e
  ·rw [e]; exact cnt_fold l b
  ·rcases cnt_fold l (bstep b x) with e2 | e2
   ·rw [e2]; exact .inr e
   ·exact .inr (by omega)
theorem cnt_pass (a : Automaton) (b : List Bool) : bpass a b = b ∨ cntB b < cntB (bpass a b) := cnt_fold _ _
def bit (a : Automaton) : Nat → List Bool → List Bool
 | 0, b => b
 | j + 1, b => bit a j (bpass a b)
theorem bit_add (a : Automaton) : ∀ (j k : Nat) (b : List Bool), bit a (j + k) b = bit a k (bit a j b)
 | 0, k, b => by rw [Nat.zero_add, bit]
 | j + 1, k, b => by rw [Nat.add_right_comm, bit, bit, bit_add a j k]
theorem bit_stab (a : Automaton) {b : List Bool} (h : bpass a b = b) : ∀ k, bit a k b = b
 | 0 => rfl
 | k + 1 => by rw [bit, h]; exact bit_stab a h k
theorem stab_eq {a : Automaton} {b : List Bool} {j k : Nat} (hj : bpass a (bit a j b) = bit a j b) (hk : bpass a (bit a k b) = bit a k b) : bit a j b = bit a k b := by
 have h1 := bit_add a j k b
 have h2 := bit_add a k j b
 rw [bit_stab a hj] at h1
 rw [bit_stab a hk] at h2
 rw [← h1, ← h2, Nat.add_comm]
def iterE (a : Automaton) : Nat → List Int → List Int
 | 0, v => v
 | j + 1, v => if (passZ a v).1 = true then iterE a j (passZ a v).2 else (passZ a v).2
theorem iterE_ZV {m : Nat} {a : Automaton} : ∀ (j : Nat) (v : List Int), ZV m v → ZV m (iterE a j v)
 | 0, _, h => h
 | j + 1, v, h => by
  rw [iterE]
  split
  ·exact iterE_ZV j _ (passZ_ZV h)
  ·exact passZ_ZV h
theorem iterE_pos {m : Nat} {a : Automaton} (hx : ∀ x ∈ a.Rules, 0 ≤ x.To ∧ x.To < (m : Int)) : ∀ (j : Nat) (v : List Int), ZV m v → ∃ k, posV (iterE a j v) = bit a k (posV v) ∧ (bpass a (posV (iterE a j v)) = posV (iterE a j v) ∨ cntB (posV v) + j ≤ cntB (posV (iterE a j v)))
 | 0, v, h => ⟨0, rfl, .inr (Nat.le_refl _)⟩
 | j + 1, v, h => by
  have hp := pos_pass h hx
  rw [iterE]
  by_cases c : (passZ a v).1 = true
  ·rw [if_pos c]
   obtain ⟨k, e1, e2⟩ := iterE_pos hx j _ (passZ_ZV (a := a) h)
   rw [hp] at e1 e2
   refine ⟨k + 1, e1, ?_⟩
   rcases e2 with e2 | e2
   ·exact .inl e2
   ·rcases cnt_pass a (posV v) with e3 | e3
    ·left
     rw [e3, bit_stab a e3] at e1
     rw [e1, e3]
    ·exact .inr (by omega)
  ·rw [if_neg c]
   rcases passZ_mes h hx with e | ⟨e, _⟩
   ·rw [e] at hp ⊢
    exact ⟨0, rfl, .inl hp.symm⟩
   ·exact absurd e c
theorem iterE_stab {m : Nat} {a : Automaton} (hx : ∀ x ∈ a.Rules, 0 ≤ x.To ∧ x.To < (m : Int)) {v : List Int} (h : ZV m v) : ∃ k, posV (iterE a m v) = bit a k (posV v) ∧ bpass a (posV (iterE a m v)) = posV (iterE a m v) := by
 obtain ⟨k, e1, e2⟩ := iterE_pos hx m v h
 refine ⟨k, e1, ?_⟩
 rcases e2 with e2 | e2
 ·exact e2
 ·rcases cnt_pass a (posV (iterE a m v)) with e3 | e3
  ·exact e3
  ·exfalso
   have h1 := cnt_le (bpass a (posV (iterE a m v)))
   have h2 : (bpass a (posV (iterE a m v))).length = m := by
    rw [← pos_pass (iterE_ZV m v h) hx]
    unfold posV
    rw [List.length_map, (passZ_ZV (iterE_ZV m v h)).len]
   omega
theorem zero_ZV (m : Nat) : ZV m (List.replicate m 0) := ⟨List.length_replicate .., fun x hx => by rw [List.eq_of_mem_replicate hx]; omega⟩
theorem eRules {a : Automaton} (ha : OKa a) {R : Type} (s : Bool × List Int) (h : ZV a.States.toNat s.2) (k : Bool × List Int → Option R) :
 rangeL a.Rules s (fun k12 i12 x12 (s12 : Bool × (List Int)) n12 =>
  rangeL x12.From 1 (fun k13 i13 x13 (s13 : Int) n13 =>
   (idxM ((a.States).toNat) s12.2 x13).bind fun v4 =>
   if v4 = 0 then
    n12 (s12.1, s12.2)
   else
    (empty_plus s13 v4).bind fun v5 =>
    n13 v5) fun s13 =>
  (idxM ((a.States).toNat) s12.2 x12.To).bind fun v3 =>
  if v3 = 0 then
   n12 (true, (List.set s12.2 ((x12.To).toNat) s13))
  else
   if s13 < v3 then
    n12 (true, (List.set s12.2 ((x12.To).toNat) s13))
   else
    n12 (s12.1, s12.2)) k = k (a.Rules.foldl stepZ s) := by
 have hst := ha.st
 have hrl := ha.rul
 rw [rangeL, if_pos (by omega)]
 refine (foldC (step := stepZ) (fun s => ZV a.States.toNat s.2) a.Rules 0 s k h ?_ (fun x s _ h => stepZ_ZV h x)).1
 intro j x s n1 hx hs
 have hf := ha.frm x hx
 have hff := ha.from' x hx
 have hto := ha.to x hx
 rw [rangeL, if_pos (by omega), eInner hs _ _ x.From 0 1 (fun y hy => by have := hff y hy; omega) (by omega) (by omega)]
 unfold stepZ
 by_cases c1 : 0 < sumZ s.2 x.From 1
 ·rw [if_pos c1, if_pos c1, hs.idxM hto.1 (by omega)]
  simp only [Option.bind_some]
  by_cases c2 : gz s.2 x.To = 0
  ·rw [if_pos c2, if_pos c2]
  ·rw [if_neg c2, if_neg c2]
   split <;> rfl
 ·rw [if_neg c1, if_neg c1]
theorem rRules {a : Automaton} (ha : OKa a) {R : Type} (s : Bool × List Int) (h : ZV a.States.toNat s.2) (k : Bool × List Int → Option R) :
 rangeL a.Rules s (fun k12 i12 x12 (s12 : Bool × (List Int)) n12 =>
  rangeL x12.From 1 (fun k13 i13 x13 (s13 : Int) n13 =>
   (idxM ((a.States).toNat) s12.2 x13).bind fun v4 =>
   if v4 = 0 then
    k13 0
   else
    (ref06_plus s13 v4).bind fun v5 =>
    n13 v5) fun s13 =>
  if 0 < s13 then
   (idxM ((a.States).toNat) s12.2 x12.To).bind fun v3 =>
   if v3 = 0 then
    n12 (true, (List.set s12.2 ((x12.To).toNat) s13))
   else
    if s13 < v3 then
     n12 (true, (List.set s12.2 ((x12.To).toNat) s13))
    else
     n12 (s12.1, s12.2)
  else
   n12 (s12.1, s12.2)) k = k (a.Rules.foldl stepZ s) := by
 have hst := ha.st
 have hrl := ha.rul
 rw [rangeL, if_pos (by omega)]
 refine (foldC (step := stepZ) (fun s => ZV a.States.toNat s.2) a.Rules 0 s k h ?_ (fun x s _ h => stepZ_ZV h x)).1
 intro j x s n1 hx hs
 have hf := ha.frm x hx
 have hff := ha.from' x hx
 have hto := ha.to x hx
 rw [rangeL, if_pos (by omega)]
 refine (rInner hs (fun s13 =>
  if 0 < s13 then
   (idxM ((a.States).toNat) s.2 x.To).bind fun v3 =>
   if v3 = 0 then
    n1 (true, (List.set s.2 ((x.To).toNat) s13))
   else
    if s13 < v3 then
     n1 (true, (List.set s.2 ((x.To).toNat) s13))
    else
     n1 (s.1, s.2)
  else
   n1 (s.1, s.2)) x.From 0 1 (fun y hy => by have := hff y hy; omega) (by omega) (by omega)).trans ?_
 unfold stepZ
 by_cases c1 : 0 < sumZ s.2 x.From 1
 ·rw [if_pos c1, if_pos c1, hs.idxM hto.1 (by omega)]
  simp only [Option.bind_some]
  by_cases c2 : gz s.2 x.To = 0
  ·rw [if_pos c2, if_pos c2]
  ·rw [if_neg c2, if_neg c2]
   split <;> rfl
 ·rw [if_neg c1, if_neg c1]
theorem mk8_eq {a : Automaton} (ha : OKa a) : mkz 8 a.States a.States (0 : Int) = some (List.replicate a.States.toNat 0) := by
 have hst := ha.st
 unfold mkz; rw [if_pos (by omega)]
theorem tkM_eq {m : Nat} {α : Type} {v : List α} (h : v.length = m) : tkM m v = some v := by
 unfold tkM
 rw [if_pos (by rw [h]; exact Nat.le_refl _), List.take_of_length_le (by rw [h]; exact Nat.le_refl _)]
theorem esizes_eq {a : Automaton} (ha : OKa a) : empty_sizes a = some (iterE a a.States.toNat (List.replicate a.States.toNat 0)) := by
 have hst := ha.st
 unfold empty_sizes
 rw [mk8_eq ha, Option.bind_some, rangeI, if_pos (by omega)]
 suffices H : ∀ (j i : Nat) (v : List Int) (k : List Int → Option (List Int)), ZV a.States.toNat v → rangeC (fun i9 (_ : Unit) (s9 : (List Int)) n9 =>
  rangeL a.Rules (false, s9) (fun k12 i12 x12 (s12 : Bool × (List Int)) n12 =>
   rangeL x12.From 1 (fun k13 i13 x13 (s13 : Int) n13 =>
    (idxM ((a.States).toNat) s12.2 x13).bind fun v4 =>
    if v4 = 0 then
     n12 (s12.1, s12.2)
    else
     (empty_plus s13 v4).bind fun v5 =>
     n13 v5) fun s13 =>
   (idxM ((a.States).toNat) s12.2 x12.To).bind fun v3 =>
   if v3 = 0 then
    n12 (true, (List.set s12.2 ((x12.To).toNat) s13))
   else
    if s13 < v3 then
     n12 (true, (List.set s12.2 ((x12.To).toNat) s13))
    else
     n12 (s12.1, s12.2)) fun s12 =>
  if s12.1 = true then
   n9 s12.2
  else
   k s12.2) (List.replicate j ()) i v k = k (iterE a j v) by
  refine (H a.States.toNat 0 _ (fun s9 => (tkM ((a.States).toNat) s9).bind fun v2 => some v2) (zero_ZV _)).trans ?_
  rw [tkM_eq (iterE_ZV _ _ (zero_ZV _)).len]; rfl
 intro j
 induction j with
 | zero => intro i v k h; rw [List.replicate_zero, rangeC, iterE]
 | succ j ih =>
  intro i v k h
  rw [List.replicate_succ, rangeC, eRules ha (false, v) h]
  rw [iterE]
  show (if (passZ a v).1 = true then _ else _) = _
  by_cases c : (passZ a v).1 = true
  ·rw [if_pos c, if_pos c]
   exact ih (i + 1) _ k (passZ_ZV h)
  ·rw [if_neg c, if_neg c]; rfl
theorem smallest_eq {a : Automaton} (ha : OKa a) : ∃ n0 S, (∀ n, n0 ≤ n → ref06_Smallest n a = some S) ∧ ZV a.States.toNat S ∧ ∃ k, posV S = bit a k (posV (List.replicate a.States.toNat 0)) ∧ bpass a (posV S) = posV S := by
 have hst := ha.st
 have hx : ∀ x ∈ a.Rules, 0 ≤ x.To ∧ x.To < (a.States.toNat : Int) := fun x h => by have := ha.to x h; omega
 suffices H : ∀ (M : Nat) (v : List Int), ZV a.States.toNat v → mesV v ≤ M → ∃ S, (∀ n, M + 2 ≤ n → ∀ k : Bool × List Int → Option (List Int), whileC (fun (s9 : Bool × (List Int)) n9 =>
  if s9.1 = true then
   rangeL a.Rules (false, s9.2) (fun k12 i12 x12 (s12 : Bool × (List Int)) n12 =>
    rangeL x12.From 1 (fun k13 i13 x13 (s13 : Int) n13 =>
     (idxM ((a.States).toNat) s12.2 x13).bind fun v4 =>
     if v4 = 0 then
      k13 0
     else
      (ref06_plus s13 v4).bind fun v5 =>
      n13 v5) fun s13 =>
    if 0 < s13 then
     (idxM ((a.States).toNat) s12.2 x12.To).bind fun v3 =>
     if v3 = 0 then
      n12 (true, (List.set s12.2 ((x12.To).toNat) s13))
     else
      if s13 < v3 then
       n12 (true, (List.set s12.2 ((x12.To).toNat) s13))
      else
       n12 (s12.1, s12.2)
    else
     n12 (s12.1, s12.2)) fun s12 =>
   n9 (s12.1, s12.2)
  else
   k (false, s9.2)) n (true, v) = k (false, S)) ∧ ZV a.States.toNat S ∧ ∃ k, posV S = bit a k (posV v) ∧ bpass a (posV S) = posV S by
  obtain ⟨S, e1, e2, e3⟩ := H _ _ (zero_ZV a.States.toNat) (Nat.le_refl _)
  refine ⟨mesV (List.replicate a.States.toNat 0) + 2, S, fun n hn => ?_, e2, e3⟩
  unfold ref06_Smallest
  rw [mk8_eq ha, Option.bind_some, whileL]
  refine (e1 n hn (fun s9 => (tkM ((a.States).toNat) s9.2).bind fun v2 => some v2)).trans ?_
  simp only []
  rw [tkM_eq e2.len]; rfl
 intro M
 induction M with
 | zero =>
  intro v h hm
  have hp := pos_pass h hx
  rcases passZ_mes h hx with e | ⟨_, e⟩
  ·refine ⟨v, fun n hn k => ?_, h, 0, rfl, by rw [e] at hp; exact hp.symm⟩
   obtain ⟨n, rfl⟩ : ∃ q, n = q + 2 := ⟨n - 2, by omega⟩
   rw [whileC, if_pos rfl, rRules ha (false, v) h]
   show whileC _ (n + 1) ((passZ a v).1, (passZ a v).2) = _
   rw [e, whileC, if_neg (by simp)]
  ·omega
 | succ M ih =>
  intro v h hm
  have hp := pos_pass h hx
  rcases passZ_mes h hx with e | ⟨e0, e⟩
  ·refine ⟨v, fun n hn k => ?_, h, 0, rfl, by rw [e] at hp; exact hp.symm⟩
   obtain ⟨n, rfl⟩ : ∃ q, n = q + 2 := ⟨n - 2, by omega⟩
   rw [whileC, if_pos rfl, rRules ha (false, v) h]
   show whileC _ (n + 1) ((passZ a v).1, (passZ a v).2) = _
   rw [e, whileC, if_neg (by simp)]
  ·obtain ⟨S, e1, e2, k0, e3, e4⟩ := ih (passZ a v).2 (passZ_ZV h) (by omega)
   refine ⟨S, fun n hn k => ?_, e2, k0 + 1, by rw [e3, hp, bit], e4⟩
   obtain ⟨n, rfl⟩ : ∃ q, n = q + 1 := ⟨n - 1, by omega⟩
   rw [whileC, if_pos rfl, rRules ha (false, v) h]
   show whileC _ n ((passZ a v).1, (passZ a v).2) = _
   rw [e0]
   exact e1 n (by omega) k
theorem sizes_same {a : Automaton} (ha : OKa a) : ∃ n0 E S, empty_sizes a = some E ∧ (∀ n, n0 ≤ n → ref06_Smallest n a = some S) ∧ E.length = a.States.toNat ∧ S.length = a.States.toNat ∧ posV E = posV S := by
 have hx : ∀ x ∈ a.Rules, 0 ≤ x.To ∧ x.To < (a.States.toNat : Int) := fun x h => by have := ha.to x h; omega
 obtain ⟨n0, S, e1, e2, k, e3, e4⟩ := smallest_eq ha
 obtain ⟨j, f1, f2⟩ := iterE_stab hx (zero_ZV a.States.toNat)
 refine ⟨n0, _, S, esizes_eq ha, e1, (iterE_ZV _ _ (zero_ZV _)).len, e2.len, ?_⟩
 rw [f1, e3]
 rw [f1] at f2
 rw [e3] at e4
 exact stab_eq f2 e4
end Go.AM.S22

namespace Go.AM.S22.Sz
open Go Go.Proofs Go.AM Go.AM.S22
set_option linter.unusedVariables false
set_option maxRecDepth 100000
set_option maxHeartbeats 4000000
def capI (n : Nat) : Int := if (n : Int) ≤ 4611686018427387904 then (n : Int) else 4611686018427387904
def pl (a b : Int) : Int := if a + b ≤ 4611686018427387904 then a + b else 4611686018427387904
theorem pl_cap (m n : Nat) : pl (capI m) (capI n) = capI (m + n) := by
 unfold pl capI
 split <;> split <;> split <;> (try split) <;> omega
theorem pl_mono {a b c d : Int} (h : a ≤ c) (k : b ≤ d) : pl a b ≤ pl c d := by
 unfold pl; split <;> split <;> omega
theorem cap_mono {m n : Nat} (h : m ≤ n) : capI m ≤ capI n := by
 unfold capI; split <;> split <;> omega
theorem cap_pos {n : Nat} (h : 1 ≤ n) : 1 ≤ capI n := by unfold capI; split <;> omega
def gv (v : List Int) (s : Int) : Int := (v[s.toNat]?).getD 0
def costL (v : List Int) : List Int → Int → Option Int
 | [], n => some n
 | s :: f, n => if gv v s = 0 then none else costL v f (pl n (gv v s))
def stepR (c : List Int × Bool) (x : Rule) : List Int × Bool :=
 match costL c.1 x.From 1 with
 | none => c
 | some n => if gv c.1 x.To = 0 ∨ n < gv c.1 x.To then (c.1.set x.To.toNat n, true) else c
mutual
inductive Der (R : List Rule) : Tree → Int → Prop
 | mk {x : Rule} {ks : List Tree} : x ∈ R → DerL R ks x.From → Der R (.mk x.Sym ks) x.To
inductive DerL (R : List Rule) : List Tree → List Int → Prop
 | nil : DerL R [] []
 | cons {k : Tree} {ks : List Tree} {f : Int} {fs : List Int} : Der R k f → DerL R ks fs → DerL R (k :: ks) (f :: fs)
end
variable {R : List Rule} {k : Nat}
def Good (R : List Rule) (k : Nat) (v : List Int) : Prop := v.length = k ∧ ∀ q : Int, 0 ≤ q → gv v q ≠ 0 → ∃ t, Der R t q ∧ gv v q = capI (tsT t)
def Low (R : List Rule) (v : List Int) : Prop := ∀ t q, Der R t q → gv v q ≠ 0 ∧ gv v q ≤ capI (tsT t)
theorem ts_pos' (t : Tree) : 1 ≤ tsT t := by rw [tsT_eq]; omega
theorem gv_set {v : List Int} {s q n : Int} (hs : 0 ≤ s) (hl : s < v.length) (hq : 0 ≤ q) : gv (v.set s.toNat n) q = if q = s then n else gv v q := by
 unfold gv
 rw [List.getElem?_set]
 by_cases e : q = s
 ·subst e; rw [if_pos rfl, if_pos rfl, if_pos (by omega)]; rfl
 ·rw [if_neg e, if_neg (by omega)]
theorem cost_good {v : List Int} (hg : Good R k v) : ∀ (f : List Int) (m : Nat) (n : Int), (∀ s ∈ f, 0 ≤ s) → costL v f (capI m) = some n → ∃ ks, DerL R ks f ∧ n = capI (m + tsL ks)
 | [], m, n, hf, h => by
  rw [costL] at h; injection h with h; subst h
  exact ⟨[], .nil, by rw [tsL]; rfl⟩
 | s :: f, m, n, hf, h => by
  rw [costL] at h
  split at h
  ·cases h
  ·rename_i h0
   obtain ⟨t, ht, e⟩ := hg.2 s (hf s (by simp)) h0
   rw [e, pl_cap] at h
   obtain ⟨ks, h1, h2⟩ := cost_good hg f _ n (fun y hy => hf y (List.mem_cons_of_mem _ hy)) h
   exact ⟨t :: ks, .cons ht h1, by rw [h2, tsL, Nat.add_assoc]⟩
def Bnd (v : List Int) : List Tree → List Int → Prop
 | [], [] => True
 | t :: ks, s :: f => (gv v s ≠ 0 ∧ gv v s ≤ capI (tsT t)) ∧ Bnd v ks f
 | _, _ => False
theorem cost_low {v : List Int} : ∀ (ks : List Tree) (f : List Int) (m : Nat) (a : Int), Bnd v ks f → a ≤ capI m → ∃ n, costL v f a = some n ∧ n ≤ capI (m + tsL ks)
 | [], [], m, a, _, ha => ⟨a, rfl, by rw [tsL]; exact ha⟩
 | t :: ks, s :: f, m, a, h, ha => by
  rw [Bnd] at h
  obtain ⟨⟨h1, h2⟩, h3⟩ := h
  obtain ⟨n, e, hn⟩ := cost_low ks f (m + tsT t) (pl a (gv v s)) h3 (by rw [← pl_cap]; exact pl_mono ha h2)
  exact ⟨n, by rw [costL, if_neg h1, e], by rw [tsL, ← Nat.add_assoc]; exact hn⟩
 | [], _ :: _, _, _, h, _ => by rw [Bnd] at h; exact h.elim; all_goals simp
 | _ :: _, [], _, _, h, _ => by rw [Bnd] at h; exact h.elim; all_goals simp
def Le (w v : List Int) : Prop := w.length = v.length ∧ ∀ q : Int, 0 ≤ q → gv v q ≠ 0 → gv w q ≠ 0 ∧ gv w q ≤ gv v q
theorem Le.refl (v : List Int) : Le v v := ⟨rfl, fun q _ h => ⟨h, Int.le_refl _⟩⟩
theorem Le.trans {u w v : List Int} (h : Le u w) (g : Le w v) : Le u v := ⟨h.1.trans g.1, fun q hq h0 => by
 obtain ⟨g1, g2⟩ := g.2 q hq h0
 obtain ⟨h1, h2⟩ := h.2 q hq g1
 exact ⟨h1, Int.le_trans h2 g2⟩⟩
theorem Bnd.le {w v : List Int} (h : Le w v) : ∀ (ks : List Tree) (f : List Int), (∀ s ∈ f, 0 ≤ s) → Bnd v ks f → Bnd w ks f
 | [], [], _, _ => by rw [Bnd]; trivial
 | t :: ks, s :: f, hf, b => by
  rw [Bnd] at b ⊢
  obtain ⟨h1, h2⟩ := h.2 s (hf s (by simp)) b.1.1
  exact ⟨⟨h1, Int.le_trans h2 b.1.2⟩, Bnd.le h ks f (fun y hy => hf y (List.mem_cons_of_mem _ hy)) b.2⟩
 | [], _ :: _, _, h => by rw [Bnd] at h; exact h.elim; all_goals simp
 | _ :: _, [], _, h => by rw [Bnd] at h; exact h.elim; all_goals simp
structure RO (R : List Rule) (k : Nat) : Prop where
 to : ∀ x ∈ R, 0 ≤ x.To ∧ x.To < (k : Int)
 frm : ∀ x ∈ R, ∀ s ∈ x.From, 0 ≤ s ∧ s < (k : Int)
theorem step_ok (hR : RO R k) {v : List Int} {b : Bool} (hg : Good R k v) {x : Rule} (hx : x ∈ R) : Good R k (stepR (v, b) x).1 ∧ Le (stepR (v, b) x).1 v ∧ (b = true → (stepR (v, b) x).2 = true) := by
 unfold stepR
 cases e : costL v x.From 1 with
 | none => exact ⟨hg, Le.refl v, fun h => h⟩
 | some n =>
  simp only []
  obtain ⟨h0, h1⟩ := hR.to x hx
  have hl := hg.1
  by_cases c : gv v x.To = 0 ∨ n < gv v x.To
  ·rw [if_pos c]
   obtain ⟨ks, hk, hn⟩ := cost_good hg x.From 1 n (fun s hs => (hR.frm x hx s hs).1) e
   have hn1 : 1 ≤ n := by rw [hn]; exact cap_pos (by omega)
   refine ⟨⟨by rw [List.length_set]; exact hl, fun q hq0 hq => ?_⟩, ⟨List.length_set, fun q hq0 hq => ?_⟩, fun _ => rfl⟩
   ·rw [gv_set h0 (by omega) hq0] at hq ⊢
    by_cases e2 : q = x.To
    ·rw [if_pos e2]; rw [e2]
     refine ⟨_, .mk hx hk, ?_⟩
     rw [hn, tsT]
    ·rw [if_neg e2] at hq ⊢; exact hg.2 q hq0 hq
   ·rw [gv_set h0 (by omega) hq0]
    by_cases e2 : q = x.To
    ·rw [if_pos e2]
     rcases c with c | c
     ·rw [e2] at hq; exact absurd c hq
     ·rw [e2]; exact ⟨by omega, by omega⟩
    ·rw [if_neg e2]; exact ⟨hq, Int.le_refl _⟩
  ·rw [if_neg c]; exact ⟨hg, Le.refl v, fun h => h⟩
theorem step_low (hR : RO R k) {v : List Int} {b : Bool} (hg : Good R k v) {x : Rule} (hx : x ∈ R) {ks : List Tree} (h : Bnd v ks x.From) : gv (stepR (v, b) x).1 x.To ≠ 0 ∧ gv (stepR (v, b) x).1 x.To ≤ capI (1 + tsL ks) := by
 obtain ⟨n, e, hn⟩ := cost_low ks x.From 1 1 h (Int.le_refl _)
 obtain ⟨ks', _, hn'⟩ := cost_good hg x.From 1 n (fun s hs => (hR.frm x hx s hs).1) e
 have hn1 : 1 ≤ n := by rw [hn']; exact cap_pos (by omega)
 obtain ⟨h0, h1⟩ := hR.to x hx
 have hl := hg.1
 unfold stepR
 rw [e]
 simp only []
 by_cases c : gv v x.To = 0 ∨ n < gv v x.To
 ·rw [if_pos c, gv_set h0 (by omega) h0, if_pos rfl]; exact ⟨by omega, hn⟩
 ·rw [if_neg c]; exact ⟨fun h => c (.inl h), Int.le_trans (Int.not_lt.1 fun h => c (.inr h)) hn⟩
theorem step_b {c : List Int × Bool} {x : Rule} : (stepR c x).2 = false → stepR c x = c := by
 unfold stepR
 split
 ·exact fun _ => rfl
 ·split
  ·exact fun h => by cases h
  ·exact fun _ => rfl
theorem step_t {c : List Int × Bool} {x : Rule} (h : c.2 = true) : (stepR c x).2 = true := by
 unfold stepR
 split
 ·exact h
 ·split
  ·rfl
  ·exact h
theorem fold_t : ∀ (l : List Rule) (c : List Int × Bool), c.2 = true → (l.foldl stepR c).2 = true
 | [], _, h => h
 | x :: l, c, h => fold_t l _ (step_t h)
theorem fold_ok (hR : RO R k) : ∀ (l : List Rule) (v : List Int) (b : Bool), (∀ x ∈ l, x ∈ R) → Good R k v → Good R k (l.foldl stepR (v, b)).1 ∧ Le (l.foldl stepR (v, b)).1 v
 | [], v, b, _, hg => ⟨hg, Le.refl v⟩
 | x :: l, v, b, hl, hg => by
  obtain ⟨h1, h2, _⟩ := step_ok hR (b := b) hg (hl x (by simp))
  obtain ⟨h3, h4⟩ := fold_ok hR l (stepR (v, b) x).1 (stepR (v, b) x).2 (fun y hy => hl y (List.mem_cons_of_mem _ hy)) h1
  exact ⟨h3, h4.trans h2⟩
theorem fold_low (hR : RO R k) : ∀ (l : List Rule) (v : List Int) (b : Bool), (∀ x ∈ l, x ∈ R) → Good R k v → ∀ x ∈ l, ∀ ks, Bnd v ks x.From → gv (l.foldl stepR (v, b)).1 x.To ≠ 0 ∧ gv (l.foldl stepR (v, b)).1 x.To ≤ capI (1 + tsL ks)
 | [], v, b, _, hg, x, hx, _, _ => by cases hx
 | y :: l, v, b, hl, hg, x, hx, ks, h => by
  have hy := hl y (by simp)
  have hl' : ∀ x ∈ l, x ∈ R := fun z hz => hl z (List.mem_cons_of_mem _ hz)
  obtain ⟨h1, h2, _⟩ := step_ok hR (b := b) hg hy
  obtain ⟨h3, h4⟩ := fold_ok hR l (stepR (v, b) y).1 (stepR (v, b) y).2 hl' h1
  rcases List.mem_cons.1 hx with rfl | hx
  ·obtain ⟨g1, g2⟩ := step_low hR (b := b) hg hy h
   obtain ⟨g3, g4⟩ := h4.2 _ (hR.to x hy).1 g1
   exact ⟨g3, Int.le_trans g4 g2⟩
  ·exact fold_low hR l (stepR (v, b) y).1 (stepR (v, b) y).2 hl' h1 x hx ks (h.le h2 ks _ (fun s hs => (hR.frm x (hl' x hx) s hs).1))
theorem fold_same : ∀ (l : List Rule) (c : List Int × Bool), (l.foldl stepR c).2 = false → l.foldl stepR c = c ∧ ∀ x ∈ l, stepR c x = c
 | [], c, _ => ⟨rfl, fun x h => by cases h⟩
 | y :: l, c, h => by
  rw [List.foldl_cons] at h ⊢
  have hs : stepR c y = c := by
   cases e : (stepR c y).2 with
   | false => exact step_b e
   | true => rw [fold_t l _ e] at h; cases h
  rw [hs] at h ⊢
  obtain ⟨h1, h2⟩ := fold_same l c h
  refine ⟨h1, fun x hx => ?_⟩
  rcases List.mem_cons.1 hx with rfl | hx
  ·exact hs
  ·exact h2 x hx
theorem bnd_of {v : List Int} : ∀ (ks : List Tree) (f : List Int), DerL R ks f → (∀ t q, tsT t ≤ tsL ks → Der R t q → gv v q ≠ 0 ∧ gv v q ≤ capI (tsT t)) → Bnd v ks f
 | [], f, h, _ => by cases h; rw [Bnd]; trivial
 | t :: ks, f, h, hb => by
  cases h with
  | cons h1 h2 =>
   rw [Bnd]
   refine ⟨hb t _ (by rw [tsL]; omega) h1, bnd_of ks _ h2 fun t' q ht' hd => hb t' q (by rw [tsL]; omega) hd⟩
theorem fix_low (hR : RO R k) {v : List Int} (hg : Good R k v) (h : (R.foldl stepR (v, false)).2 = false) : Low R v := by
 obtain ⟨_, hs⟩ := fold_same R _ h
 have H : ∀ n t q, tsT t < n → Der R t q → gv v q ≠ 0 ∧ gv v q ≤ capI (tsT t) := by
  intro n
  induction n with
  | zero => intro t q h; omega
  | succ n ih =>
   intro t q hn hd
   cases hd with
   | @mk x ks hx hk =>
    rw [tsT] at hn ⊢
    have hb := bnd_of (v := v) ks x.From hk fun t' q' ht' hd' => ih t' q' (by omega) hd'
    have := step_low hR (b := false) hg hx hb
    rw [hs x hx] at this
    exact this
 exact fun t q hd => H (tsT t + 1) t q (by omega) hd
def Mn (R : List Rule) (t : Tree) (q : Int) : Prop := Der R t q ∧ ∀ t', Der R t' q → tsT t ≤ tsT t'
theorem mn_ex : ∀ (m : Nat) (t : Tree) (q : Int), tsT t ≤ m → Der R t q → ∃ t', Mn R t' q ∧ tsT t' ≤ tsT t
 | 0, t, q, h, _ => by have := ts_pos' t; omega
 | m + 1, t, q, h, hd => by
  by_cases c : ∃ t', Der R t' q ∧ tsT t' < tsT t
  ·obtain ⟨t', h1, h2⟩ := c
   obtain ⟨t'', h3, h4⟩ := mn_ex m t' q (by omega) h1
   exact ⟨t'', h3, by omega⟩
  ·exact ⟨t, ⟨hd, fun t' h' => Nat.le_of_not_lt fun h => c ⟨t', h', h⟩⟩, Nat.le_refl _⟩
theorem der_rng (hR : RO R k) {t : Tree} {q : Int} (h : Der R t q) : 0 ≤ q ∧ q < (k : Int) := by
 cases h with
 | mk hx _ => exact hR.to _ hx
theorem filter_lt {α : Type} {p p' : α → Bool} : ∀ (l : List α), (∀ q ∈ l, p q = true → p' q = true) → (∃ q ∈ l, p' q = true ∧ p q = false) → (l.filter p).length < (l.filter p').length
 | [], _, ⟨q, h, _⟩ => by cases h
 | x :: l, h, ⟨q, hq, h1, h2⟩ => by
  have hle : ∀ l : List α, (∀ q ∈ l, p q = true → p' q = true) → (l.filter p).length ≤ (l.filter p').length := by
   intro l
   induction l with
   | nil => intro _; exact Nat.le_refl _
   | cons y l ih =>
    intro h
    have := ih fun q hq => h q (List.mem_cons_of_mem _ hq)
    rw [List.filter_cons, List.filter_cons]
    cases c : p y with
    | true => rw [h y (by simp) c, if_pos rfl, if_pos rfl, List.length_cons, List.length_cons]; omega
    | false =>
     rw [if_neg (by simp)]
     split
     ·rw [List.length_cons]; omega
     ·exact this
  rw [List.filter_cons, List.filter_cons]
  rcases List.mem_cons.1 hq with rfl | hq
  ·rw [h1, h2, if_pos rfl, if_neg (by simp), List.length_cons]
   have := hle l fun q hq => h q (List.mem_cons_of_mem _ hq)
   omega
  ·have := filter_lt l (fun q hq => h q (List.mem_cons_of_mem _ hq)) ⟨q, hq, h1, h2⟩
   cases c : p x with
   | true => rw [h x (by simp) c, if_pos rfl, if_pos rfl, List.length_cons, List.length_cons]; omega
   | false =>
    rw [if_neg (by simp)]
    split
    ·rw [List.length_cons]; omega
    ·exact this
open Classical in
noncomputable def cL (R : List Rule) (k m : Nat) : Nat := ((List.range k).filter fun (q : Nat) => decide (∃ t, Der R t (q : Int) ∧ tsT t < m)).length
open Classical in
theorem cL_lt (hR : RO R k) {t : Tree} {q : Int} (h : Mn R t q) {m : Nat} (hm : tsT t < m) : cL R k (tsT t) < cL R k m := by
 obtain ⟨h0, h1⟩ := der_rng hR h.1
 unfold cL
 refine filter_lt _ (fun p hp hx => ?_) ⟨q.toNat, List.mem_range.2 (by omega), ?_, ?_⟩
 ·obtain ⟨t', h2, h3⟩ := of_decide_eq_true hx
  exact decide_eq_true ⟨t', h2, by omega⟩
 ·exact decide_eq_true ⟨t, by rw [Int.toNat_of_nonneg h0]; exact h.1, hm⟩
 ·refine decide_eq_false ?_
  rintro ⟨t', h2, h3⟩
  rw [Int.toNat_of_nonneg h0] at h2
  have := h.2 t' h2
  omega
open Classical in
theorem cL_max (hR : RO R k) {t : Tree} {q : Int} (h : Mn R t q) : cL R k (tsT t) < k := by
 obtain ⟨h0, h1⟩ := der_rng hR h.1
 have : k = ((List.range k).filter fun _ => true).length := by rw [List.filter_eq_self.2 fun _ _ => rfl, List.length_range]
 refine Nat.lt_of_lt_of_eq ?_ this.symm
 unfold cL
 refine filter_lt _ (fun _ _ _ => rfl) ⟨q.toNat, List.mem_range.2 (by omega), rfl, decide_eq_false ?_⟩
 rintro ⟨t', h2, h3⟩
 rw [Int.toNat_of_nonneg h0] at h2
 have := h.2 t' h2
 omega
def LowUp (R : List Rule) (k i : Nat) (v : List Int) : Prop := ∀ t q, Mn R t q → cL R k (tsT t) < i → gv v q ≠ 0 ∧ gv v q ≤ capI (tsT t)
theorem pass_up (hR : RO R k) {i : Nat} {v : List Int} {b : Bool} (hg : Good R k v) (h : LowUp R k i v) : LowUp R k (i + 1) (R.foldl stepR (v, b)).1 := by
 intro t q hm hc
 obtain ⟨hd, hmin⟩ := hm
 cases hd with
 | @mk x ks hx hk =>
  rw [tsT] at hc ⊢
  refine fold_low hR R v b (fun _ h => h) hg x hx ks (bnd_of ks _ hk fun t' q' ht' hd' => ?_)
  obtain ⟨t2, h2, h3⟩ := mn_ex (tsT t') t' q' (Nat.le_refl _) hd'
  obtain ⟨g1, g2⟩ := h t2 q' h2 (by have := cL_lt hR h2 (m := 1 + tsL ks) (by omega); omega)
  exact ⟨g1, Int.le_trans g2 (cap_mono h3)⟩
theorem up_low (hR : RO R k) {v : List Int} (h : LowUp R k k v) : Low R v := by
 intro t q hd
 obtain ⟨t2, h2, h3⟩ := mn_ex (tsT t) t q (Nat.le_refl _) hd
 obtain ⟨g1, g2⟩ := h t2 q h2 (cL_max hR h2)
 exact ⟨g1, Int.le_trans g2 (cap_mono h3)⟩
theorem good_zero : Good R k (List.replicate k 0) := by
 refine ⟨by simp, fun q hq h => ?_⟩
 exfalso; apply h
 unfold gv
 rw [List.getElem?_replicate]
 split <;> rfl
theorem up_zero {v : List Int} : LowUp R k 0 v := fun t q _ h => by omega
end Go.AM.S22.Sz

namespace Go.AM.S22
open Go Go.Proofs Go.AM
set_option linter.unusedVariables false
set_option maxRecDepth 100000
set_option maxHeartbeats 4000000
namespace A3
open Go Go.Proofs Go.AM Go.AM.S22
theorem ok_of {r : List Int} {a : Automaton} {t : Tree} (hv : aV r a = true) (hf : fewB r a t = true) : A3.OKa r a := by
 have h := S22.ok_of hv hf
 unfold aV at hv
 simp only [Bool.and_eq_true, decide_eq_true_eq, List.all_eq_true, Bool.or_eq_true] at hv
 obtain ⟨v1, ⟨v2, v3, v4⟩, v5, v6⟩ := hv
 unfold vA at v1
 simp only [Bool.and_eq_true, decide_eq_true_eq] at v1
 refine ⟨v1.1, h.st, h.rul, h.fin, h.frm, fun x hx => ?_, h.to, h.from', h.fins⟩
 have := v6 x hx
 unfold rOk at this
 simp only [Bool.and_eq_true, decide_eq_true_eq] at this
 exact this.1
def ask (r : List Int) (a : Automaton) (t : Tree) : Int := if (aV r a && tvld r t) = true then 0 else 1
theorem asked_eq {n : Nat} {r : List Int} {a : Automaton} {t : Tree} (w : AW a) (hd : tdT t < n) (hw : twT t = true) : auto_asked n ⟨r⟩ a t = some (ask r a t) := by
 unfold auto_asked ask
 rw [auto_eq r a w, Option.bind_some, tvalid_eq r hd hw, Option.bind_some]
 cases aV r a <;> cases tvld r t <;> rfl
def tr : List Bool → Nat → List Int
 | [], _ => []
 | b :: l, i => if b = true then (i : Int) :: tr l (i + 1) else tr l (i + 1)
theorem tr_mem : ∀ (l : List Bool) (i : Nat) (x : Int), x ∈ tr l i ↔ ∃ j : Nat, l[j]? = some true ∧ x = ((i + j : Nat) : Int)
 | [], i, x => by simp [tr]
 | b :: l, i, x => by
  rw [tr]
  have ih := tr_mem l (i + 1) x
  constructor
  ·intro h
   by_cases c : b = true
   ·rw [if_pos c] at h
    rcases List.mem_cons.1 h with rfl | h
    ·exact ⟨0, by simp [c], by simp⟩
    ·obtain ⟨j, h1, h2⟩ := ih.1 h
     exact ⟨j + 1, by simpa using h1, by rw [h2]; congr 1; omega⟩
   ·rw [if_neg c] at h
    obtain ⟨j, h1, h2⟩ := ih.1 h
    exact ⟨j + 1, by simpa using h1, by rw [h2]; congr 1; omega⟩
  ·rintro ⟨j, h1, h2⟩
   cases j with
   | zero =>
    simp at h1; subst h1
    rw [if_pos rfl, h2]; simp
   | succ j =>
    have := ih.2 ⟨j, by simpa using h1, by rw [h2]; congr 1; omega⟩
    split
    ·exact List.mem_cons_of_mem _ this
    ·exact this
theorem tr_loop {R : Type} : ∀ (l : List Bool) (i : Nat) (s : List Int) (K : List Int → Option R), s.length + l.length ≤ 1000 →
 rangeC (fun i1 x1 (s1 : (List Int)) n1 => if x1 = true then (app 8 s1 [((i1 : Nat) : Int)]).bind fun v5 => n1 v5 else n1 s1) l i s K = K (s ++ tr l i)
 | [], i, s, K, h => by rw [rangeC, tr, List.append_nil]
 | b :: l, i, s, K, h => by
  simp only [List.length_cons] at h
  rw [rangeC, tr]
  by_cases c : b = true
  ·rw [if_pos c, if_pos c, app_ok (by simp; omega), Option.bind_some]
   refine (tr_loop l (i + 1) _ K (by simp; omega)).trans ?_
   rw [List.append_assoc]; rfl
  ·rw [if_neg c, if_neg c]
   exact tr_loop l (i + 1) s K (by omega)
theorem States_eq {n : Nat} {r : List Int} {a : Automaton} {t : Tree} (w : AW a) (hd : tdT t < n) (hw : twT t = true) (ha : aV r a = true → A3.OKa r a) (hs : tsT t ≤ 300) :
 auto_States n ⟨r⟩ a t = some (if ask r a t = 0 then (tr (rowT a t) 0, 0) else ([], ask r a t)) := by
 unfold auto_States
 rw [asked_eq w hd hw, Option.bind_some]
 by_cases c : ask r a t = 0
 ·rw [if_pos c, if_pos c]
  have hv : (aV r a && tvld r t) = true := by
   unfold ask at c
   split at c
   ·assumption
   ·cases c
  rw [Bool.and_eq_true] at hv
  have hA := ha hv.1
  have hsh : shT r t = true := by
   have := hv.2
   unfold tvld at this
   simp only [Bool.and_eq_true] at this
   exact this.2.2
  obtain ⟨bl, hb1, hb2⟩ := By_eq hA
  rw [hb1, Option.bind_some, sets_eq hA hb2 n t hd hsh hs, Option.bind_some, setsF_eq]
  have hl := rowT_len a t
  have h40 := hA.st
  rw [List.getElem?_cons_zero, Option.bind_some, rangeL, if_pos (by omega), tr_loop _ _ _ _ (by simp; omega)]
  simp
 ·rw [if_neg c, if_neg c]
theorem Final_eq {r : List Int} {a : Automaton} (ha : A3.OKa r a) : ∃ fl, auto_Final a = some fl ∧ fl.length = a.States.toNat ∧ ∀ q : Int, 0 ≤ q → (fl[q.toNat]?).getD false = decide (q ∈ a.Final ∧ q < a.States) := by
 have hst := ha.st
 unfold auto_Final
 have hm : mkz 1 a.States a.States false = some (List.replicate a.States.toNat false) := by
  unfold mkz
  rw [if_pos (by omega)]
 have L : ∀ (l : List Int) (i : Nat) (s : List Bool) (K : List Bool → Option (List Bool)), (∀ x ∈ l, 0 ≤ x ∧ x < a.States) → s.length = a.States.toNat →
  ∃ s', rangeC (fun i1 x1 (s1 : (List Bool)) n1 => (idxM ((a.States).toNat) s1 x1).bind fun v3 => n1 (List.set s1 ((x1).toNat) true)) l i s K = K s' ∧ s'.length = a.States.toNat ∧ ∀ q : Int, 0 ≤ q → (s'[q.toNat]?).getD false = ((s[q.toNat]?).getD false || decide (q ∈ l ∧ q < a.States)) := by
  intro l
  induction l with
  | nil => intro i s K _ hs; exact ⟨s, rfl, hs, fun q hq => by simp⟩
  | cons x l ih =>
   intro i s K hx hs
   have hx0 := hx x (by simp)
   obtain ⟨s', h1, h2, h3⟩ := ih (i + 1) (s.set x.toNat true) K (fun y hy => hx y (List.mem_cons_of_mem _ hy)) (by rw [List.length_set]; exact hs)
   refine ⟨s', ?_, h2, fun q hq => ?_⟩
   ·rw [rangeC]
    have : idxM a.States.toNat s x = some (s[x.toNat]'(by omega)) := by
     unfold idxM
     rw [if_pos (by omega), List.getElem?_eq_getElem (by omega)]
    rw [this, Option.bind_some]; exact h1
   ·rw [h3 q hq, List.getElem?_set]
    by_cases e : x.toNat = q.toNat
    ·have e' : x = q := by omega
     subst e'
     rw [if_pos rfl, if_pos (by omega)]
     simp [hx0.2]
    ·rw [if_neg e]
     have e' : q ≠ x := fun h => e (by rw [h])
     simp [e']
 obtain ⟨s', h1, h2, h3⟩ := L a.Final 0 (List.replicate a.States.toNat false) (fun s1 => (tkM ((a.States).toNat) s1).bind fun v2 => some v2) (fun x hx => ha.fins x hx) (by simp)
 refine ⟨s', ?_, h2, fun q hq => ?_⟩
 ·rw [hm, Option.bind_some, rangeL, if_pos (by have := ha.fin; omega), h1, tkM_eq h2]; rfl
 ·rw [h3 q hq, List.getElem?_replicate]
  split <;> simp
theorem Accepts_eq {n : Nat} {r : List Int} {a : Automaton} {t : Tree} (w : AW a) (hd : tdT t < n) (hw : twT t = true) (ha : aV r a = true → A3.OKa r a) (hs : tsT t ≤ 300) :
 ∃ b, auto_Accepts n ⟨r⟩ a t = some (b, ask r a t) ∧ (ask r a t = 0 → (b = true ↔ ∃ s ∈ a.Final, stT a t s = true)) := by
 unfold auto_Accepts
 rw [States_eq w hd hw ha hs, Option.bind_some]
 by_cases c : ask r a t = 0
 ·have hv : (aV r a && tvld r t) = true := by
   unfold ask at c
   split at c
   ·assumption
   ·cases c
  rw [Bool.and_eq_true] at hv
  have hA := ha hv.1
  have hst := hA.st
  obtain ⟨fl, f1, f2, f3⟩ := Final_eq hA
  rw [if_pos c, if_pos rfl, f1, Option.bind_some]
  have L : ∀ (l : List Int) (i : Nat), (∀ x ∈ l, 0 ≤ x ∧ x < a.States) →
   rangeC (fun i1 x1 (s1 : Unit) n1 => (idx fl x1).bind fun v3 => if v3 = true then (fun (u1 : Int) => some (decide (0 ≤ u1), (0 : Int))) ((i1 : Nat) : Int) else n1 ()) l i () (fun _ => (fun (u1 : Int) => some (decide (0 ≤ u1), (0 : Int))) (-1)) = some (l.any fun x => decide (x ∈ a.Final), 0) := by
   intro l
   induction l with
   | nil => intro i _; rw [rangeC]; rfl
   | cons x l ih =>
    intro i hx
    have hx0 := hx x (by simp)
    have hi : idx fl x = some (decide (x ∈ a.Final)) := by
     rw [S22.idx_get (z := false) f2 hx0.1 (by omega), f3 x hx0.1]
     simp [hx0.2]
    rw [rangeC, hi, Option.bind_some, List.any_cons]
    by_cases e : x ∈ a.Final
    ·rw [decide_eq_true e, if_pos rfl]
     simp
    ·rw [decide_eq_false e, if_neg (by simp)]
     refine (ih (i + 1) fun y hy => hx y (List.mem_cons_of_mem _ hy)).trans ?_
     simp
  have hl := rowT_len a t
  have hmem : ∀ x, x ∈ tr (rowT a t) 0 ↔ (0 ≤ x ∧ x < a.States ∧ stT a t x = true) := by
   intro x
   rw [tr_mem]
   constructor
   ·rintro ⟨j, h1, h2⟩
    have hj := (List.getElem?_eq_some_iff.1 h1).1
    have := rowT_idx (a := a) (t := t) (q := x) (by omega) (by omega)
    unfold idx at this
    rw [if_pos (by omega), show x.toNat = j by omega, h1] at this
    injection this with this
    exact ⟨by omega, by omega, this.symm⟩
   ·rintro ⟨h1, h2, h3⟩
    have := rowT_idx (a := a) (t := t) h1 h2
    unfold idx at this
    rw [if_pos h1, h3] at this
    exact ⟨x.toNat, this, by omega⟩
  have hlen : (tr (rowT a t) 0).length < 9223372036854775808 := by
   have : ∀ (l : List Bool) (i : Nat), (tr l i).length ≤ l.length := by
    intro l
    induction l with
    | nil => intro i; exact Nat.le_refl _
    | cons b l ih =>
     intro i
     rw [tr]
     have := ih (i + 1)
     split <;> simp <;> omega
   have := this (rowT a t) 0
   omega
  refine ⟨(tr (rowT a t) 0).any fun x => decide (x ∈ a.Final), ?_, fun _ => ?_⟩
  ·rw [c]
   show jn _ (fun j1 => rangeL (tr (rowT a t) 0) () _ _) = _
   rw [jn, rangeL, if_pos hlen]
   exact L _ 0 fun x hx => ⟨((hmem x).1 hx).1, ((hmem x).1 hx).2.1⟩
  ·rw [List.any_eq_true]
   constructor
   ·rintro ⟨x, h1, h2⟩
    exact ⟨x, of_decide_eq_true h2, ((hmem x).1 h1).2.2⟩
   ·rintro ⟨s, h1, h2⟩
    have := hA.fins s h1
    exact ⟨s, (hmem s).2 ⟨this.1, this.2, h2⟩, decide_eq_true h1⟩
 ·rw [if_neg c, if_neg c]
  exact ⟨false, rfl, fun h => absurd h c⟩
mutual
theorem der_of {r : List Int} {a : Automaton} (ha : A3.OKa r a) : ∀ (t : Tree) (q : Int), shT r t = true → stT a t q = true → Sz.Der a.Rules t q
 | .mk s ks, q, hs, h => by
  obtain ⟨_, _, h3, h4⟩ := sh_parts hs
  rw [stT, List.any_eq_true] at h
  obtain ⟨x, hx, h⟩ := h
  rw [Bool.and_eq_true] at h
  obtain ⟨h1, h2⟩ := h
  obtain ⟨e1, e2⟩ := of_decide_eq_true h1
  subst e1; subst e2
  exact .mk hx (derL_of ha ks x.From (by have := (ha.sym x hx).2.2; have h3 : (ks.length : Int) = rk r x.Sym := h3; omega) h4 h2)
theorem derL_of {r : List Int} {a : Automaton} (ha : A3.OKa r a) : ∀ (ks : List Tree) (f : List Int), ks.length = f.length → shL r ks = true → stL a ks f = true → Sz.DerL a.Rules ks f
 | [], [], _, _, _ => .nil
 | [], _ :: _, h, _, _ => by cases h
 | _ :: _, [], h, _, _ => by cases h
 | k :: ks, f :: fs, hl, hs, h => by
  obtain ⟨h1, h2⟩ := shL_cons hs
  rw [stL, Bool.and_eq_true] at h
  exact .cons (der_of ha k f h1 h.1) (derL_of ha ks fs (by simpa using hl) h2 h.2)
end
end A3
theorem pl_plus (a b : Int) : Sz.pl a b = plusI a b := by unfold Sz.pl plusI; split <;> split <;> omega
theorem gv_gz (v : List Int) (x : Int) : Sz.gv v x = gz v x := rfl
theorem sum_cost {m : Nat} {v : List Int} (h : ZV m v) : ∀ (f : List Int) (n : Int), 1 ≤ n → (match Sz.costL v f n with | none => sumZ v f n = 0 | some k => sumZ v f n = k ∧ 1 ≤ k)
 | [], n, hn => by rw [Sz.costL]; exact ⟨by rw [sumZ], hn⟩
 | s :: f, n, hn => by
  rw [Sz.costL, gv_gz, sumZ]
  by_cases c : gz v s = 0
  ·rw [if_pos c, if_pos c]
  ·rw [if_neg c, if_neg c, pl_plus]
   exact sum_cost h f _ (plusI_bd hn (h.gz s).1).1
theorem step_eq {m : Nat} {v : List Int} (h : ZV m v) (b : Bool) (x : Rule) : stepZ (b, v) x = ((Sz.stepR (v, b) x).2, (Sz.stepR (v, b) x).1) := by
 have hs := sum_cost h x.From 1 (by omega)
 unfold stepZ Sz.stepR
 dsimp only
 cases e : Sz.costL v x.From 1 with
 | none =>
  rw [e] at hs
  dsimp only at hs ⊢
  rw [hs, if_neg (by omega)]
 | some n =>
  rw [e] at hs
  dsimp only at hs ⊢
  rw [hs.1, if_pos (by omega), gv_gz]
  by_cases c1 : gz v x.To = 0
  ·rw [if_pos c1, if_pos (.inl c1)]
  ·rw [if_neg c1]
   by_cases c2 : n < gz v x.To
   ·rw [if_pos c2, if_pos (.inr c2)]
   ·rw [if_neg c2, if_neg (by rintro (h | h) <;> omega)]
theorem fold_eq {m : Nat} : ∀ (l : List Rule) (v : List Int) (b : Bool), ZV m v → l.foldl stepZ (b, v) = ((l.foldl Sz.stepR (v, b)).2, (l.foldl Sz.stepR (v, b)).1)
 | [], v, b, h => rfl
 | x :: l, v, b, h => by
  rw [List.foldl_cons, List.foldl_cons, step_eq h]
  have hz := stepZ_ZV (s := (b, v)) h x
  rw [step_eq h] at hz
  exact fold_eq l _ _ hz
theorem iter_low {a : Automaton} {k : Nat} (hR : Sz.RO a.Rules k) : ∀ (j i : Nat) (v : List Int), ZV k v → Sz.Good a.Rules k v → Sz.LowUp a.Rules k i v → Sz.Good a.Rules k (iterE a j v) ∧ (Sz.Low a.Rules (iterE a j v) ∨ Sz.LowUp a.Rules k (i + j) (iterE a j v))
 | 0, i, v, hz, hg, hu => ⟨hg, .inr hu⟩
 | j + 1, i, v, hz, hg, hu => by
  rw [iterE]
  have e : passZ a v = ((a.Rules.foldl Sz.stepR (v, false)).2, (a.Rules.foldl Sz.stepR (v, false)).1) := fold_eq a.Rules v false hz
  have hg' := (Sz.fold_ok hR a.Rules v false (fun _ h => h) hg).1
  rw [e]
  dsimp only
  cases c : (a.Rules.foldl Sz.stepR (v, false)).2 with
  | true =>
   rw [if_pos rfl]
   have hz' := passZ_ZV (a := a) hz
   rw [e] at hz'
   obtain ⟨h1, h2⟩ := iter_low hR j (i + 1) _ hz' hg' (Sz.pass_up hR hg hu)
   refine ⟨h1, h2.imp id fun h => ?_⟩
   rwa [show i + 1 + j = i + (j + 1) by omega] at h
  | false =>
   rw [if_neg (by simp)]
   refine ⟨hg', .inl ?_⟩
   have := (Sz.fold_same a.Rules (v, false) c).1
   rw [this]
   exact Sz.fix_low hR hg c
theorem sizes_low {a : Automaton} (ha : OKa a) : ∃ v, empty_sizes a = some v ∧ ZV a.States.toNat v ∧ Sz.Good a.Rules a.States.toNat v ∧ Sz.Low a.Rules v := by
 have hst := ha.st
 have hR : Sz.RO a.Rules a.States.toNat := ⟨fun x hx => by have := ha.to x hx; omega, fun x hx s hs => by have := ha.from' x hx s hs; omega⟩
 refine ⟨_, esizes_eq ha, iterE_ZV _ _ (zero_ZV _), ?_⟩
 obtain ⟨h1, h2⟩ := iter_low hR a.States.toNat 0 _ (zero_ZV _) Sz.good_zero Sz.up_zero
 refine ⟨h1, h2.elim id fun h => Sz.up_low hR ?_⟩
 rwa [Nat.zero_add] at h
theorem few2_eq {n : Nat} (r : List Int) (a : Automaton) (t u : Tree) (w : AW a) (hd : tdT t < n) (hw : twT t = true) (hd' : tdT u < n) (hw' : twT u = true) : law22_few n ⟨r⟩ a [t, u] = some (decide ((tsT t : Int) ≤ 80) && fewB r a u) := by
 have h := few_eq r a u w hd' hw'
 unfold law22_few at h ⊢
 rw [rangeL, if_pos (by simp only [List.length_cons, List.length_nil]; omega)] at h ⊢
 simp only [rangeC] at h ⊢
 rw [tfew_eq hd hw (by omega) (by omega)]
 simp only [Option.bind_some]
 cases decide ((tsT t : Int) ≤ 80) with
 | false => rfl
 | true => simp only [if_true, Bool.true_and]; exact h
end Go.AM.S22

namespace Go.AM.S22
open Go Go.Proofs Go.AM
set_option linter.unusedVariables false
set_option maxRecDepth 100000
set_option maxHeartbeats 4000000
mutual
def dT (R M I : Int) : Tree → Tree → Int
 | .mk s ks, u => if ks.length = u.Kids.length ∧ (s = u.Sym ∨ 0 ≤ R) then min (M * tsT (.mk s ks) + I * tsT u) ((if s = u.Sym then 0 else R) + dL R M I ks u.Kids) else M * tsT (.mk s ks) + I * tsT u
def dL (R M I : Int) : List Tree → List Tree → Int
 | [], _ => 0
 | _ :: _, [] => 0
 | x :: r, y :: q => dT R M I x y + dL R M I r q
end
theorem dT_eq (R M I : Int) (t u : Tree) : dT R M I t u = if t.Kids.length = u.Kids.length ∧ (t.Sym = u.Sym ∨ 0 ≤ R) then min (M * tsT t + I * tsT u) ((if t.Sym = u.Sym then 0 else R) + dL R M I t.Kids u.Kids) else M * tsT t + I * tsT u := by
 cases t; rw [dT]
structure WOk (R M I : Int) : Prop where
 r : -1 ≤ R ∧ R ≤ 1000
 m : 0 ≤ M ∧ M ≤ 1000
 i : 0 ≤ I ∧ I ≤ 1000
theorem mul_bd {M : Int} (h : 0 ≤ M ∧ M ≤ 1000) (k : Nat) : 0 ≤ M * (k : Int) ∧ M * (k : Int) ≤ 1000 * k :=
 ⟨Int.mul_nonneg h.1 (Int.natCast_nonneg k), Int.mul_le_mul_of_nonneg_right h.2 (Int.natCast_nonneg k)⟩
mutual
theorem dT_bd {R M I : Int} (w : WOk R M I) : ∀ t u : Tree, 0 ≤ dT R M I t u ∧ dT R M I t u ≤ M * tsT t + I * tsT u
 | .mk s ks, u => by
  have h1 := mul_bd w.m (tsT (.mk s ks))
  have h2 := mul_bd w.i (tsT u)
  have h3 := dL_bd w ks u.Kids
  rw [dT]
  split
  ·rename_i h
   have : 0 ≤ (if s = u.Sym then 0 else R) := by
    split
    ·omega
    ·rcases h.2 with h | h
     ·contradiction
     ·exact h
   omega
  ·omega
theorem dL_bd {R M I : Int} (w : WOk R M I) : ∀ ks qs : List Tree, 0 ≤ dL R M I ks qs
 | [], _ => by rw [dL]; omega
 | _ :: _, [] => by rw [dL]; omega
 | x :: r, y :: q => by
  rw [dL]
  have := (dT_bd w x y).1
  have := dL_bd w r q
  omega
end
theorem dT_big {R M I : Int} (w : WOk R M I) (t u : Tree) : dT R M I t u ≤ 1000 * (tsT t + tsT u : Nat) := by
 have h1 := mul_bd w.m (tsT t)
 have h2 := mul_bd w.i (tsT u)
 have h3 := (dT_bd w t u).2
 omega
theorem least_eq (a b : Int) : repair_least_int a b = some (min a b) := by
 unfold repair_least_int
 by_cases c : b < a
 ·rw [if_pos c]; congr 1; omega
 ·rw [if_neg c]; congr 1; omega
theorem d_loop {Rr : Type} {F : Tree → Tree → Option Int} {R M I : Int} (w : WOk R M I) (all : List Tree) : ∀ (ks qs : List Tree) (i : Nat) (s : Int) (K : Int → Option Rr),
 (∀ x ∈ ks, ∀ y ∈ qs, F x y = some (dT R M I x y)) → all.drop i = qs → ks.length = qs.length → 0 ≤ s → s + 1000 * (tsL ks + tsL qs : Nat) ≤ 1000000000 →
 rangeC (fun i1 x1 (s1 : Int) n1 => (all[i1]?).bind fun v => (F x1 v).bind fun v5 => n1 (w64 (s1 + v5))) ks i s K = K (s + dL R M I ks qs)
 | [], [], i, s, K, _, _, _, _, _ => by rw [rangeC, dL, Int.add_zero]
 | [], _ :: _, _, _, _, _, _, h, _, _ => by cases h
 | _ :: _, [], _, _, _, _, _, h, _, _ => by cases h
 | x :: ks, y :: qs, i, s, K, hF, hd, hl, h0, hb => by
  have hy : all[i]? = some y := by
   have := List.getElem?_drop (xs := all) (i := i) (j := 0)
   rw [hd] at this
   simpa using this.symm
  have hd' : all.drop (i + 1) = qs := by
   have : all.drop (i + 1) = (all.drop i).drop 1 := by rw [List.drop_drop]
   rw [this, hd]; rfl
  have b1 := (dT_bd w x y).1
  have b2 := dT_big w x y
  simp only [tsL] at hb
  rw [rangeC, hy, Option.bind_some, hF x (by simp) y (by simp), Option.bind_some, w64_eq (by omega) (by omega)]
  refine (d_loop w all ks qs (i + 1) (s + dT R M I x y) K (fun a ha b hb => hF a (List.mem_cons_of_mem _ ha) b (List.mem_cons_of_mem _ hb)) hd' (by simpa using hl) (by omega) (by omega)).trans ?_
  rw [dL, Int.add_assoc]
theorem distance_eq {R M I : Int} (w : WOk R M I) : ∀ (n : Nat) (t u : Tree), tdT t + 1 < n → tdT u + 1 < n → tsT t ≤ 80 → tsT u ≤ 80 → repair_distance n t u ⟨R, M, I⟩ = some (dT R M I t u)
 | 0, _, _, h, _, _, _ => by omega
 | n + 1, t, u, h1, h2, h3, h4 => by
  have e1 := tree_Size_eq n t
  have e2 := tree_Size_eq n u
  have b1 := mul_bd w.m (tsT t)
  have b2 := mul_bd w.i (tsT u)
  rw [repair_distance]
  have hn : tdT t < n ∧ tdT u < n := ⟨by omega, by omega⟩
  ·rw [e1 hn.1 (by omega), Option.bind_some, e2 hn.2 (by omega), Option.bind_some]
   dsimp only
   have hw : w64 (w64 (M * (tsT t : Int)) + w64 (I * (tsT u : Int))) = M * tsT t + I * tsT u := by
    rw [w64_eq (n := M * _) (by omega) (by omega), w64_eq (n := I * _) (by omega) (by omega), w64_eq (by omega) (by omega)]
   have kt := tsT_eq t
   have ku := tsT_eq u
   have lt := tlen t.Kids
   have ih : ∀ x ∈ t.Kids, ∀ y ∈ u.Kids, repair_distance n x y ⟨R, M, I⟩ = some (dT R M I x y) := fun x hx y hy => by
    have dx := td_mem hx; have dy := td_mem hy
    have sx := ts_mem hx; have sy := ts_mem hy
    rw [tdT_eq] at h1 h2
    exact distance_eq w n x y (by omega) (by omega) (by omega) (by omega)
   rw [hw, dT_eq]
   by_cases c1 : t.Kids.length = u.Kids.length
   ·rw [if_pos (show (t.Kids.length : Int) = u.Kids.length by omega)]
    by_cases c2 : t.Sym = u.Sym
    ·rw [if_pos c2, if_pos ⟨c1, .inl c2⟩, if_pos c2, rangeL, if_pos (by omega)]
     refine (d_loop w u.Kids t.Kids u.Kids 0 0 _ ih (by simp) c1 (by omega) (by omega)).trans ?_
     rw [least_eq]; rfl
    ·rw [if_neg c2]
     by_cases c3 : R < 0
     ·rw [if_pos c3, if_neg (fun h => h.2.elim c2 (fun h => by omega))]
     ·have hr := w.r
      rw [if_neg c3, if_pos ⟨c1, .inr (by omega)⟩, if_neg c2, rangeL, if_pos (by omega)]
      refine (d_loop w u.Kids t.Kids u.Kids 0 R _ ih (by simp) c1 (by omega) (by omega)).trans ?_
      rw [least_eq]; rfl
   ·rw [if_neg (show ¬ (t.Kids.length : Int) = u.Kids.length by omega), if_neg (fun h => c1 h.1)]
end Go.AM.S22

namespace Go.AM.S22
open Go Go.Proofs Go.AM
set_option linter.unusedVariables false
set_option maxRecDepth 100000
def zh : ref22_cut := ⟨false, 0, []⟩
def addP (i : Nat) (l : List (List Int)) : List (List Int) := l.map fun p => (i : Int) :: p
theorem pre_eq {R : Type} (i : Nat) (k : List (List Int) → Option R) : ∀ (l : List (List Int)) (p : Nat) (s : List (List Int)), (∀ x ∈ l, x.length ≤ 1000) → s.length + l.length ≤ 1000 →
 rangeC (fun (_ : Nat) x4 (s4 : (List (List Int))) n4 => (app 8 [(i : Int)] x4).bind fun v3 => (app 24 s4 [v3]).bind fun v4 => n4 v4) l p s k = k (s ++ addP i l)
 | [], p, s, _, _ => by rw [rangeC]; unfold addP; rw [List.map_nil, List.append_nil]
 | x :: l, p, s, hx, hs => by
  have h1 := hx x (by simp)
  rw [List.length_cons] at hs
  rw [rangeC, app_ok (by simp only [List.length_cons, List.length_nil]; omega)]
  simp only [Option.bind_some]
  rw [app_ok (by simp only [List.length_cons, List.length_nil]; omega)]
  simp only [Option.bind_some]
  rw [pre_eq i k l (p + 1) _ (fun y hy => hx y (List.mem_cons_of_mem _ hy)) (by simp only [List.length_append, List.length_cons, List.length_nil]; omega)]
  unfold addP
  simp
def hf : Nat → List (List ref22_cut) → List Int → Bool × Int × List (List Int) → Bool × Int × List (List Int)
 | i, k :: ks, x :: xs, s => hf (i + 1) ks xs (s.1 && ((k[x.toNat]?).getD zh).some, s.2.1 + ((k[x.toNat]?).getD zh).nodes, s.2.2 ++ addP i ((k[x.toNat]?).getD zh).l)
 | _, _, _, s => s
def mkH (s : Bool × Int × List (List Int)) : ref22_cut := ⟨true, s.2.1, s.2.2⟩
def stepH (kids : List (List ref22_cut)) (sym : Int) (row : List ref22_cut) (x : Rule) : List ref22_cut :=
 if x.Sym = sym then
  (if (hf 0 kids x.From (true, 0, [])).1 = true then
   (if cutB (mkH (hf 0 kids x.From (true, 0, []))) ((row[x.To.toNat]?).getD zh) = true then row.set x.To.toNat (mkH (hf 0 kids x.From (true, 0, []))) else row)
  else row)
 else row
def iniH (zs : List Bool) (n : Nat) : List ref22_cut := zs.map fun b => if b = true then ⟨true, (n : Int), [[]]⟩ else zh
def rowH (a : Automaton) (zs : List Bool) (n : Nat) (sym : Int) (kids : List (List ref22_cut)) : List ref22_cut := a.Rules.foldl (stepH kids sym) (iniH zs n)
mutual
def cuT (a : Automaton) (zs : List Bool) : Tree → List ref22_cut
 | .mk s k => rowH a zs (tsT (.mk s k)) s (cuL a zs k)
def cuL (a : Automaton) (zs : List Bool) : List Tree → List (List ref22_cut)
 | [] => []
 | x :: r => cuT a zs x :: cuL a zs r
end
theorem cuT_eq (a : Automaton) (zs : List Bool) (t : Tree) : cuT a zs t = rowH a zs (tsT t) t.Sym (cuL a zs t.Kids) := by cases t; rw [cuT]
theorem cuL_len (a : Automaton) (zs : List Bool) : ∀ l, (cuL a zs l).length = l.length
 | [] => by rw [cuL]; rfl
 | x :: r => by rw [cuL, List.length_cons, List.length_cons, cuL_len a zs r]
theorem cuL_get (a : Automaton) (zs : List Bool) : ∀ (l : List Tree) (i : Nat) (t : Tree), l[i]? = some t → (cuL a zs l)[i]? = some (cuT a zs t)
 | [], i, t, h => by simp at h
 | x :: r, 0, t, h => by rw [cuL]; simp at h ⊢; rw [h]
 | x :: r, i + 1, t, h => by rw [cuL]; simp at h ⊢; exact cuL_get a zs r i t h
structure HC (t : Tree) (c : ref22_cut) : Prop where
 no : c.some = false → c = zh
 n0 : 0 ≤ c.nodes
 n1 : c.nodes ≤ tsT t
 ll : c.l.length ≤ tsT t
 pl : ∀ p ∈ c.l, p.length ≤ tdT t
theorem HC.zh (t : Tree) : HC t zh := ⟨fun _ => rfl, Int.le_refl _, Int.natCast_nonneg _, Nat.zero_le _, fun p h => by cases h⟩
def HR (m : Nat) (t : Tree) (row : List ref22_cut) : Prop := row.length = m ∧ ∀ c ∈ row, HC t c
def HK (m : Nat) : List (List ref22_cut) → List Tree → Prop
 | [], [] => True
 | r :: rs, t :: ts => HR m t r ∧ HK m rs ts
 | _, _ => False
theorem HR.get {m : Nat} {t : Tree} {row : List ref22_cut} (h : HR m t row) (i : Nat) : HC t ((row[i]?).getD S22.zh) := by
 cases e : row[i]? with
 | none => exact HC.zh t
 | some c => exact h.2 c (List.mem_of_getElem? e)
theorem HK.len {m : Nat} : ∀ {ks : List (List ref22_cut)} {kl : List Tree}, HK m ks kl → ks.length = kl.length
 | [], [], _ => rfl
 | _ :: _, _ :: _, h => by rw [List.length_cons, List.length_cons, HK.len h.2]
 | [], _ :: _, h => h.elim
 | _ :: _, [], h => h.elim
theorem hf_false : ∀ (ks : List (List ref22_cut)) (xs : List Int) (i : Nat) (s : Bool × Int × List (List Int)), s.1 = false → (hf i ks xs s).1 = false
 | [], _, i, s, h => by rw [hf]; exact h; exact fun _ _ _ _ h => by cases h
 | _ :: _, [], i, s, h => by rw [hf]; exact h; exact fun _ _ _ _ _ h => by cases h
 | k :: ks, x :: xs, i, s, h => by rw [hf]; exact hf_false ks xs _ _ (by rw [h]; rfl)
theorem hf_bd {m : Nat} : ∀ (ks : List (List ref22_cut)) (kl : List Tree) (xs : List Int) (i : Nat) (s : Bool × Int × List (List Int)), HK m ks kl → s.2.1 ≤ (hf i ks xs s).2.1 ∧ (hf i ks xs s).2.1 ≤ s.2.1 + tsL kl ∧ (hf i ks xs s).2.2.length ≤ s.2.2.length + tsL kl ∧ ∀ p ∈ (hf i ks xs s).2.2, p ∈ s.2.2 ∨ p.length ≤ tdL kl
 | [], [], xs, i, s, h => by
  have : hf i [] xs s = s := by rw [hf]; exact fun _ _ _ _ h => by cases h
  rw [this, tsL]; exact ⟨by omega, by omega, by omega, fun p h => .inl h⟩
 | _ :: _, [], _, _, _, h => h.elim
 | [], _ :: _, _, _, _, h => h.elim
 | k :: ks, t :: kl, [], i, s, h => by
  have : hf i (k :: ks) [] s = s := by rw [hf]; exact fun _ _ _ _ _ h => by cases h
  rw [this]; exact ⟨by omega, by omega, by omega, fun p h => .inl h⟩
 | k :: ks, t :: kl, x :: xs, i, s, h => by
  have hc := h.1.get x.toNat
  have ih := hf_bd ks kl xs (i + 1) (s.1 && ((k[x.toNat]?).getD zh).some, s.2.1 + ((k[x.toNat]?).getD zh).nodes, s.2.2 ++ addP i ((k[x.toNat]?).getD zh).l) h.2
  obtain ⟨h0, h1, h2, h3⟩ := ih
  have c0 := hc.n0; have c1 := hc.n1; have c2 := hc.ll; have c3 := hc.pl
  have hl : (addP i ((k[x.toNat]?).getD zh).l).length = ((k[x.toNat]?).getD zh).l.length := by unfold addP; rw [List.length_map]
  simp only [List.length_append, hl] at h0 h1 h2 h3
  rw [hf, tsL, tdL]
  refine ⟨by omega, by omega, by omega, fun p hp => ?_⟩
  rcases h3 p hp with h | h
  ·rcases List.mem_append.1 h with h | h
   ·exact .inl h
   ·obtain ⟨q, hq, rfl⟩ := List.mem_map.1 h
    have := c3 q hq
    right
    rw [List.length_cons]; omega
  ·right; omega
theorem iniH_HR {m : Nat} {zs : List Bool} (h : zs.length = m) (t : Tree) : HR m t (iniH zs (tsT t)) := by
 refine ⟨by unfold iniH; rw [List.length_map, h], fun c hc => ?_⟩
 obtain ⟨b, _, rfl⟩ := List.mem_map.1 hc
 have := tsT_eq t
 split
 ·exact ⟨fun h => by (cases h), Int.natCast_nonneg _, Int.le_refl _, by simp only [List.length_cons, List.length_nil]; omega, fun p hp => by
   rw [List.mem_singleton] at hp; subst hp; exact Nat.zero_le _⟩
 ·exact HC.zh t
theorem step_HR {m : Nat} {t : Tree} {ks : List (List ref22_cut)} (hk : HK m ks t.Kids) {row : List ref22_cut} (h : HR m t row) (x : Rule) : HR m t (stepH ks t.Sym row x) := by
 unfold stepH
 split
 ·split
  ·split
   ·refine ⟨by rw [List.length_set]; exact h.1, fun c hc => ?_⟩
    rcases List.mem_or_eq_of_mem_set hc with hc | rfl
    ·exact h.2 c hc
    ·obtain ⟨q1, q2, q3, q4⟩ := hf_bd ks t.Kids x.From 0 (true, 0, []) hk
     have e1 := tsT_eq t
     have e2 := tdT_eq t
     simp only [List.length_nil] at q1 q2 q3
     unfold mkH
     refine ⟨fun h => by (cases h), q1, by simp only []; omega, by simp only []; omega, fun p hp => ?_⟩
     rcases q4 p hp with h | h
     ·cases h
     ·omega
   ·exact h
  ·exact h
 ·exact h
theorem row_HR {m : Nat} {a : Automaton} {zs : List Bool} (hz : zs.length = m) {t : Tree} {ks : List (List ref22_cut)} (hk : HK m ks t.Kids) : HR m t (rowH a zs (tsT t) t.Sym ks) := by
 unfold rowH
 have : ∀ (l : List Rule) (row : List ref22_cut), HR m t row → HR m t (l.foldl (stepH ks t.Sym) row) := by
  intro l
  induction l with
  | nil => intro row h; exact h
  | cons x l ih => intro row h; exact ih _ (step_HR hk h x)
 exact this _ _ (iniH_HR hz t)
mutual
theorem cuT_HR {m : Nat} (a : Automaton) {zs : List Bool} (hz : zs.length = m) : ∀ t : Tree, HR m t (cuT a zs t)
 | .mk s k => by rw [cuT]; exact row_HR hz (t := .mk s k) (cuL_HK a hz k)
theorem cuL_HK {m : Nat} (a : Automaton) {zs : List Bool} (hz : zs.length = m) : ∀ l : List Tree, HK m (cuL a zs l) l
 | [] => by rw [cuL]; trivial
 | x :: r => by rw [cuL]; exact ⟨cuT_HR a hz x, cuL_HK a hz r⟩
end
def Fit (r : List Int) (a : Automaton) : Prop := ∀ x ∈ a.Rules, (x.From.length : Int) = rk r x.Sym
theorem shL_mem {r : List Int} : ∀ {l : List Tree}, shL r l = true → ∀ x ∈ l, shT r x = true
 | [], _, x, h => by cases h
 | y :: l, h, x, hx => by
  rw [shL, Bool.and_eq_true] at h
  rcases List.mem_cons.1 hx with rfl | hx
  ·exact h.1
  ·exact shL_mem h.2 x hx
theorem sh_out {r : List Int} {t : Tree} (h : shT r t = true) : (t.Kids.length : Int) = rk r t.Sym ∧ shL r t.Kids = true := by
 rw [shT_eq, Bool.and_eq_true, decide_eq_true_eq] at h
 exact ⟨h.1.2.2, h.2⟩
theorem sml_of {t : Tree} {c : ref22_cut} (h : HC t c) (h1 : tsT t ≤ 80) : SmL c.l := ⟨by have := h.ll; omega, fun p hp => by have := h.pl p hp; have := td_le t; omega⟩
theorem sml_hf {m : Nat} {t : Tree} {ks : List (List ref22_cut)} (hk : HK m ks t.Kids) (h1 : tsT t ≤ 80) (xs : List Int) : SmL (hf 0 ks xs (true, 0, [])).2.2 := by
 obtain ⟨q1, q2, q3, q4⟩ := hf_bd ks t.Kids xs 0 (true, 0, []) hk
 have e1 := tsT_eq t
 have e2 := tdT_eq t
 have e3 := td_le t
 simp only [List.length_nil] at q3
 refine ⟨by omega, fun p hp => ?_⟩
 rcases q4 p hp with h | h
 ·cases h
 ·omega
theorem iniG {R β : Type} {f : Int → β} {z0 : β} {m : Nat} {z : List Int} (hz : z.length = m) {body : Nat → Unit → List β → (List β → Option R) → Option R} (hb : ∀ i s n1 v, z[i]? = some v → s.length = m → s[i]? = some z0 → body i () s n1 = n1 (s.set i (f v))) (k : List β → Option R) :
 ∀ (us p : List Int), z = p ++ us → rangeC body (List.replicate us.length ()) p.length (p.map f ++ List.replicate us.length z0) k = k (z.map f)
 | [], p, e => by rw [List.length_nil, List.replicate_zero, rangeC, List.replicate_zero, List.append_nil, e, List.append_nil]
 | u :: us, p, e => by
  have hzl : m = p.length + (us.length + 1) := by rw [← hz, e]; simp
  have hget : (p.map f ++ List.replicate (us.length + 1) z0)[p.length]? = some z0 := by
   rw [List.getElem?_append_right (by simp), List.length_map, Nat.sub_self, List.replicate_succ]; rfl
  rw [List.length_cons, List.replicate_succ, rangeC, hb p.length _ _ u (by rw [e, List.getElem?_append_right (Nat.le_refl _), Nat.sub_self]; rfl) (by simp; omega) hget]
  have h2 : List.set (p.map f ++ List.replicate (us.length + 1) z0) p.length (f u) = (p ++ [u]).map f ++ List.replicate us.length z0 := by
   rw [List.set_append_right _ _ (by simp), List.length_map, Nat.sub_self, List.replicate_succ, List.set_cons_zero, List.map_append, List.append_assoc]; rfl
  rw [h2]
  have := iniG hz hb k us (p ++ [u]) (by rw [e]; simp)
  rw [List.length_append] at this
  exact this
end Go.AM.S22

namespace Go.AM.S22
open Go Go.Proofs Go.AM
set_option maxRecDepth 100000
set_option linter.unusedVariables false
set_option maxHeartbeats 4000000
structure repair_table where
 a : Automaton
 w : repair_Weights
 size : List Int
 cost : List (List Int)
 kids : List (List Int)
 tree : List Tree
def row_repair_table (x : repair_table) : List PV := [iv x.a.States, .sl none 1 (List.map rowI x.a.Final), .sl none 3 (List.map row_Rule x.a.Rules), iv x.w.Relabel, iv x.w.Remove, iv x.w.Insert, .sl none 1 (List.map rowI x.size), .sl none 1 (List.map (rowL 1 rowI) x.cost), .sl none 1 (List.map (rowL 1 rowI) x.kids), .sl none 2 (List.map row_Tree x.tree)]
theorem row_repair_table_eq (x : repair_table) : row_repair_table x = [iv x.a.States, .sl none 1 (List.map rowI x.a.Final), .sl none 3 (List.map row_Rule x.a.Rules), iv x.w.Relabel, iv x.w.Remove, iv x.w.Insert, .sl none 1 (List.map rowI x.size), .sl none 1 (List.map (rowL 1 rowI) x.cost), .sl none 1 (List.map (rowL 1 rowI) x.kids), .sl none 2 (List.map row_Tree x.tree)] := rfl
attribute [go_sem] row_repair_table_eq
def slices_Clone_q (a : List Int) (l o : Nat) : Option (List Int) := if o + l ≤ a.length ∧ l ≤ 1000000 then some ((a.drop o).take l) else none
theorem allRows_I : ∀ l : List Int, allRows (List.map (rowA rowI) l) = some (List.map rowI l)
 | [] => rfl
 | x :: l => by
  show (match allPure ((rowI x).map AV.p), allRows (List.map (rowA rowI) l) with | some l, some ls => some (l :: ls) | _, _ => none) = _
  rw [allRows_I l]; rfl
theorem clone_nil : call Try.prog T H (.fn 97) [.p (.sl (some true) 1 [])] [] = some (.ret (.p (.sl none 1 [])), []) := by
 refine Sat.fn fun Q hQ => ?_
 rw [call97]
 conv => arg 1; arg 7; unfold S22.c97 Try.f97; simp only [Option.getD_some]
 simp only [go_sem]
 exact Sat.ok hQ
theorem spec97 (g : Nat) (a : List Int) (l o : Nat) (r : List Int) (h : slices_Clone_q a l o = some r) : call Try.prog T H (.fn 97) [.ms 0 g 1 o l] [.arr g 1 (List.map (rowA rowI) a)] = some (.ret (.p (.sl none 1 (List.map rowI r))), [.arr g 1 (List.map (rowA rowI) a)]) := by
 unfold slices_Clone_q at h
 split at h
 ·rename_i hl
  injection h with h; subst h
  refine Sat.fn fun Q hQ => ?_
  rw [call97]
  conv => arg 1; arg 7; unfold S22.c97 Try.f97; simp only [Option.getD_some]
  have h1 : boundOk ((a.drop o).take l).length 8 = true := by unfold boundOk; simp; omega
  simp only [go_sem, hl.1, allRows_I, h1]
  exact Sat.ok hQ
 ·cases h
def repair_table_news_wx (a0 : repair_table) (a1 : Int) : Option Int :=
 (idx a0.size a1).bind fun v1 =>
 if v1 = 0 then
  some 2199023255552
 else
  if a0.w.Insert = 0 then
   some 0
  else
   if 1099511627776 < v1 then
    some 2199023255552
   else
    some (w64 (v1 * a0.w.Insert))
theorem spec98_wx (σ : List AObj) (p0 : Nat) (hp0 : p0 < σ.length) (a0 : repair_table) (a1 : Int) (r : Int) (h : repair_table_news_wx a0 a1 = some r) :
 call Try.prog T H (.fn 98) [.ptr p0 0, .p (iv a1)] (List.set σ p0 (.cells [.p (iv a0.a.States), .p (.sl none 1 (List.map rowI a0.a.Final)), .p (.sl none 3 (List.map row_Rule a0.a.Rules)), .p (iv a0.w.Relabel), .p (iv a0.w.Remove), .p (iv a0.w.Insert), .p (.sl none 1 (List.map rowI a0.size)), .own 1 (List.map (rowL 1 rowI) a0.cost), .own 1 (List.map (rowL 1 rowI) a0.kids), .own 2 (List.map row_Tree a0.tree)])) = some (.ret (.p (iv r)), (List.set σ p0 (.cells [.p (iv a0.a.States), .p (.sl none 1 (List.map rowI a0.a.Final)), .p (.sl none 3 (List.map row_Rule a0.a.Rules)), .p (iv a0.w.Relabel), .p (iv a0.w.Remove), .p (iv a0.w.Insert), .p (.sl none 1 (List.map rowI a0.size)), .own 1 (List.map (rowL 1 rowI) a0.cost), .own 1 (List.map (rowL 1 rowI) a0.kids), .own 2 (List.map row_Tree a0.tree)]))) := by
 refine Sat.fn fun Q hQ => ?_
 unfold repair_table_news_wx at h
 rw [call98]
 conv => arg 1; arg 7; unfold S22.c98 Try.f98; simp only [Option.getD_some]
 obtain ⟨v1, e_v1, h⟩ := ob h
 obtain ⟨e_v1a, e_v1b⟩ := idx_some e_v1
 by_cases c1 : v1 = 0
 ·have h := iteT h c1
  have c1b : (v1 == 0) = true := beqT c1
  simp only [go_sem, e_v1a, e_v1b, c1b, hp0, fun k => Nat.lt_add_right k hp0, Nat.not_le_of_lt hp0, fun k => Nat.not_le_of_lt (Nat.lt_add_right k hp0)]
  injection h with h; subst h
  exact Sat.ok hQ
 ·have h := iteF h c1
  have c1b : (v1 == 0) = false := beqF c1
  by_cases c2 : a0.w.Insert = 0
  ·have h := iteT h c2
   have c2b : (a0.w.Insert == 0) = true := beqT c2
   simp only [go_sem, e_v1a, e_v1b, c1b, c2b, hp0, fun k => Nat.lt_add_right k hp0, Nat.not_le_of_lt hp0, fun k => Nat.not_le_of_lt (Nat.lt_add_right k hp0)]
   injection h with h; subst h
   exact Sat.ok hQ
  ·have h := iteF h c2
   have c2b : (a0.w.Insert == 0) = false := beqF c2
   by_cases c3 : 1099511627776 < v1
   ·have h := iteT h c3
    simp only [go_sem, e_v1a, e_v1b, c1b, c2b, c3, hp0, fun k => Nat.lt_add_right k hp0, Nat.not_le_of_lt hp0, fun k => Nat.not_le_of_lt (Nat.lt_add_right k hp0)]
    injection h with h; subst h
    exact Sat.ok hQ
   ·have h := iteF h c3
    simp only [go_sem, e_v1a, e_v1b, c1b, c2b, c3, hp0, fun k => Nat.lt_add_right k hp0, Nat.not_le_of_lt hp0, fun k => Nat.not_le_of_lt (Nat.lt_add_right k hp0)]
    injection h with h; subst h
    exact Sat.ok hQ
def repair_table_keep_wxx (a0 : repair_table) (a1 : Rule) (a2 : Int) : Option Int :=
 (idx a0.tree a2).bind fun v1 =>
 if a1.Sym = v1.Sym then
  (idx a0.kids a2).bind fun v2 =>
  if (a1.From.length : Int) = (v2.length : Int) then
   rangeL a1.From 0 (fun k1 i1 x1 (s1 : Int) n1 =>
    (v2[i1]?).bind fun v3 =>
    (idx a0.cost v3).bind fun v4 =>
    (idx v4 x1).bind fun v5 =>
    (repair_least_int (w64 (s1 + v5)) 2199023255552).bind fun v6 =>
    n1 v6) fun s1 =>
   some s1
  else
   some 2199023255552
 else
  if a0.w.Relabel < 0 then
   some 2199023255552
  else
   (idx a0.kids a2).bind fun v7 =>
   if (a1.From.length : Int) = (v7.length : Int) then
    rangeL a1.From a0.w.Relabel (fun k2 i2 x2 (s2 : Int) n2 =>
     (v7[i2]?).bind fun v8 =>
     (idx a0.cost v8).bind fun v9 =>
     (idx v9 x2).bind fun v10 =>
     (repair_least_int (w64 (s2 + v10)) 2199023255552).bind fun v11 =>
     n2 v11) fun s2 =>
    some s2
   else
    some 2199023255552
theorem spec83_wxx (σ : List AObj) (p0 : Nat) (hp0 : p0 < σ.length) (a0 : repair_table) (a1 : Rule) (a2 : Int) (r : Int) (h : repair_table_keep_wxx a0 a1 a2 = some r) :
 call Try.prog T H (.fn 83) [.ptr p0 0, .p (.agg [iv a1.Sym, .sl none 1 (List.map rowI a1.From), iv a1.To]), .p (iv a2)] (List.set σ p0 (.cells [.p (iv a0.a.States), .p (.sl none 1 (List.map rowI a0.a.Final)), .p (.sl none 3 (List.map row_Rule a0.a.Rules)), .p (iv a0.w.Relabel), .p (iv a0.w.Remove), .p (iv a0.w.Insert), .p (.sl none 1 (List.map rowI a0.size)), .own 1 (List.map (rowL 1 rowI) a0.cost), .own 1 (List.map (rowL 1 rowI) a0.kids), .own 2 (List.map row_Tree a0.tree)])) = some (.ret (.p (iv r)), (List.set σ p0 (.cells [.p (iv a0.a.States), .p (.sl none 1 (List.map rowI a0.a.Final)), .p (.sl none 3 (List.map row_Rule a0.a.Rules)), .p (iv a0.w.Relabel), .p (iv a0.w.Remove), .p (iv a0.w.Insert), .p (.sl none 1 (List.map rowI a0.size)), .own 1 (List.map (rowL 1 rowI) a0.cost), .own 1 (List.map (rowL 1 rowI) a0.kids), .own 2 (List.map row_Tree a0.tree)]))) := by
 refine Sat.fn fun Q hQ => ?_
 unfold repair_table_keep_wxx at h
 rw [call83]
 conv => arg 1; arg 7; unfold S22.c83 Try.f83; simp only [Option.getD_some]
 obtain ⟨v1, e_v1, h⟩ := ob h
 obtain ⟨e_v1a, e_v1b⟩ := idx_some e_v1
 by_cases c1 : a1.Sym = v1.Sym
 ·have h := iteT h c1
  have c1b : (a1.Sym != v1.Sym) = false := bneF c1
  obtain ⟨v2, e_v2, h⟩ := ob h
  obtain ⟨e_v2a, e_v2b⟩ := idx_some e_v2
  by_cases c2 : (a1.From.length : Int) = (v2.length : Int)
  ·have h := iteT h c2
   have c2b : ((a1.From.length : Int) != (v2.length : Int)) = false := bneF c2
   simp only [go_sem, e_v1a, e_v1b, c1b, e_v2a, e_v2b, c2b, hp0, fun k => Nat.lt_add_right k hp0, Nat.not_le_of_lt hp0, fun k => Nat.not_le_of_lt (Nat.lt_add_right k hp0)]
   refine run_rangeL (c := L83_0) (live := [0, 2, 7, 45, 46, 47]) (by simp only [go_sem]) (M := fun i1 (s1 : Int) => [(0, .ptr p0 0), (2, .p (iv a2)), (7, .p (iv s1)), (45, .p (.sl none 1 (List.map rowI a1.From))), (46, .p (iv (a1.From.length : Int))), (47, .p (iv (i1 : Int)))]) (Z := fun i1 (s1 : Int) => ((List.set σ p0 (.cells [.p (iv a0.a.States), .p (.sl none 1 (List.map rowI a0.a.Final)), .p (.sl none 3 (List.map row_Rule a0.a.Rules)), .p (iv a0.w.Relabel), .p (iv a0.w.Remove), .p (iv a0.w.Insert), .p (.sl none 1 (List.map rowI a0.size)), .own 1 (List.map (rowL 1 rowI) a0.cost), .own 1 (List.map (rowL 1 rowI) a0.kids), .own 2 (List.map row_Tree a0.tree)])) ++ [.cells [.p (iv a1.Sym), .p (.sl none 1 (List.map rowI a1.From)), .p (iv a1.To)]])) (N := fun (s1 : Int) => ⟨[(7, .p (iv s1))], ((List.set σ p0 (.cells [.p (iv a0.a.States), .p (.sl none 1 (List.map rowI a0.a.Final)), .p (.sl none 3 (List.map row_Rule a0.a.Rules)), .p (iv a0.w.Relabel), .p (iv a0.w.Remove), .p (iv a0.w.Insert), .p (.sl none 1 (List.map rowI a0.size)), .own 1 (List.map (rowL 1 rowI) a0.cost), .own 1 (List.map (rowL 1 rowI) a0.kids), .own 2 (List.map row_Tree a0.tree)])) ++ [.cells [.p (iv a1.Sym), .p (.sl none 1 (List.map rowI a1.From)), .p (iv a1.To)]]), [], none, false⟩) h rfl rfl (fun _ _ => rfl) ?_ ?_ ?_
   ·intro s1 h
    try dsimp only at h ⊢
    simp only [go_sem, hp0, fun k => Nat.lt_add_right k hp0, Nat.not_le_of_lt hp0, fun k => Nat.not_le_of_lt (Nat.lt_add_right k hp0)]
    injection h with h; subst h
    exact Sat.ok hQ
   ·intro K1 s1 hb1 he1
    try dsimp only
    conv => arg 1; arg 7; unfold L83_0 loopAt S22.c83 Try.f83; simp only [loopIn, Option.getD_some, if_true]
    simp only [go_sem, he1, hp0, fun k => Nat.lt_add_right k hp0, Nat.not_le_of_lt hp0, fun k => Nat.not_le_of_lt (Nat.lt_add_right k hp0)]
    exact hb1
   ·intro K1 k1 i1 x1 s1 n1 hR1 hE1 hb1 hx1 hi1 hw1 ih1 h
    try dsimp only at h ⊢
    conv => arg 1; arg 7; unfold L83_0 loopAt S22.c83 Try.f83; simp only [loopIn, Option.getD_some, if_true]
    obtain ⟨v3, e_v3, h⟩ := ob h
    obtain ⟨v4, e_v4, h⟩ := ob h
    obtain ⟨e_v4a, e_v4b⟩ := idx_some e_v4
    obtain ⟨v5, e_v5, h⟩ := ob h
    obtain ⟨e_v5a, e_v5b⟩ := idx_some e_v5
    obtain ⟨v6, e_v6, h⟩ := ob h
    have e_v6c : call Try.prog T H (.fn 76) [.p (iv (w64 (s1 + v5))), .p (iv 2199023255552)] [] = some (.ret (.p (iv v6)), []) := spec76 (w64 (s1 + v5)) 2199023255552 v6 e_v6
    simp only [go_sem, hx1, hi1, hw1, e_v2a, e_v2b, e_v3, e_v4a, e_v4b, e_v5a, e_v5b, e_v6c, hR1, hE1, hp0, fun k => Nat.lt_add_right k hp0, Nat.not_le_of_lt hp0, fun k => Nat.not_le_of_lt (Nat.lt_add_right k hp0)]
    exact ih1 v6 h
  ·have h := iteF h c2
   have c2b : ((a1.From.length : Int) != (v2.length : Int)) = true := bneT c2
   simp only [go_sem, e_v1a, e_v1b, c1b, e_v2a, e_v2b, c2b, hp0, fun k => Nat.lt_add_right k hp0, Nat.not_le_of_lt hp0, fun k => Nat.not_le_of_lt (Nat.lt_add_right k hp0)]
   injection h with h; subst h
   exact Sat.ok hQ
 ·have h := iteF h c1
  have c1b : (a1.Sym != v1.Sym) = true := bneT c1
  by_cases c3 : a0.w.Relabel < 0
  ·have h := iteT h c3
   simp only [go_sem, e_v1a, e_v1b, c1b, c3, hp0, fun k => Nat.lt_add_right k hp0, Nat.not_le_of_lt hp0, fun k => Nat.not_le_of_lt (Nat.lt_add_right k hp0)]
   injection h with h; subst h
   exact Sat.ok hQ
  ·have h := iteF h c3
   obtain ⟨v7, e_v7, h⟩ := ob h
   obtain ⟨e_v7a, e_v7b⟩ := idx_some e_v7
   by_cases c4 : (a1.From.length : Int) = (v7.length : Int)
   ·have h := iteT h c4
    have c4b : ((a1.From.length : Int) != (v7.length : Int)) = false := bneF c4
    simp only [go_sem, e_v1a, e_v1b, c1b, c3, e_v7a, e_v7b, c4b, hp0, fun k => Nat.lt_add_right k hp0, Nat.not_le_of_lt hp0, fun k => Nat.not_le_of_lt (Nat.lt_add_right k hp0)]
    refine run_rangeL (c := L83_0) (live := [0, 2, 7, 45, 46, 47]) (by simp only [go_sem]) (M := fun i2 (s2 : Int) => [(0, .ptr p0 0), (2, .p (iv a2)), (7, .p (iv s2)), (45, .p (.sl none 1 (List.map rowI a1.From))), (46, .p (iv (a1.From.length : Int))), (47, .p (iv (i2 : Int)))]) (Z := fun i2 (s2 : Int) => ((List.set σ p0 (.cells [.p (iv a0.a.States), .p (.sl none 1 (List.map rowI a0.a.Final)), .p (.sl none 3 (List.map row_Rule a0.a.Rules)), .p (iv a0.w.Relabel), .p (iv a0.w.Remove), .p (iv a0.w.Insert), .p (.sl none 1 (List.map rowI a0.size)), .own 1 (List.map (rowL 1 rowI) a0.cost), .own 1 (List.map (rowL 1 rowI) a0.kids), .own 2 (List.map row_Tree a0.tree)])) ++ [.cells [.p (iv a1.Sym), .p (.sl none 1 (List.map rowI a1.From)), .p (iv a1.To)]])) (N := fun (s2 : Int) => ⟨[(7, .p (iv s2))], ((List.set σ p0 (.cells [.p (iv a0.a.States), .p (.sl none 1 (List.map rowI a0.a.Final)), .p (.sl none 3 (List.map row_Rule a0.a.Rules)), .p (iv a0.w.Relabel), .p (iv a0.w.Remove), .p (iv a0.w.Insert), .p (.sl none 1 (List.map rowI a0.size)), .own 1 (List.map (rowL 1 rowI) a0.cost), .own 1 (List.map (rowL 1 rowI) a0.kids), .own 2 (List.map row_Tree a0.tree)])) ++ [.cells [.p (iv a1.Sym), .p (.sl none 1 (List.map rowI a1.From)), .p (iv a1.To)]]), [], none, false⟩) h rfl rfl (fun _ _ => rfl) ?_ ?_ ?_
    ·intro s2 h
     try dsimp only at h ⊢
     simp only [go_sem, hp0, fun k => Nat.lt_add_right k hp0, Nat.not_le_of_lt hp0, fun k => Nat.not_le_of_lt (Nat.lt_add_right k hp0)]
     injection h with h; subst h
     exact Sat.ok hQ
    ·intro K2 s2 hb2 he2
     try dsimp only
     conv => arg 1; arg 7; unfold L83_0 loopAt S22.c83 Try.f83; simp only [loopIn, Option.getD_some, if_true]
     simp only [go_sem, he2, hp0, fun k => Nat.lt_add_right k hp0, Nat.not_le_of_lt hp0, fun k => Nat.not_le_of_lt (Nat.lt_add_right k hp0)]
     exact hb2
    ·intro K2 k2 i2 x2 s2 n2 hR2 hE2 hb2 hx2 hi2 hw2 ih2 h
     try dsimp only at h ⊢
     conv => arg 1; arg 7; unfold L83_0 loopAt S22.c83 Try.f83; simp only [loopIn, Option.getD_some, if_true]
     obtain ⟨v8, e_v8, h⟩ := ob h
     obtain ⟨v9, e_v9, h⟩ := ob h
     obtain ⟨e_v9a, e_v9b⟩ := idx_some e_v9
     obtain ⟨v10, e_v10, h⟩ := ob h
     obtain ⟨e_v10a, e_v10b⟩ := idx_some e_v10
     obtain ⟨v11, e_v11, h⟩ := ob h
     have e_v11c : call Try.prog T H (.fn 76) [.p (iv (w64 (s2 + v10))), .p (iv 2199023255552)] [] = some (.ret (.p (iv v11)), []) := spec76 (w64 (s2 + v10)) 2199023255552 v11 e_v11
     simp only [go_sem, hx2, hi2, hw2, e_v7a, e_v7b, e_v8, e_v9a, e_v9b, e_v10a, e_v10b, e_v11c, hR2, hE2, hp0, fun k => Nat.lt_add_right k hp0, Nat.not_le_of_lt hp0, fun k => Nat.not_le_of_lt (Nat.lt_add_right k hp0)]
     exact ih2 v11 h
   ·have h := iteF h c4
    have c4b : ((a1.From.length : Int) != (v7.length : Int)) = true := bneT c4
    simp only [go_sem, e_v1a, e_v1b, c1b, c3, e_v7a, e_v7b, c4b, hp0, fun k => Nat.lt_add_right k hp0, Nat.not_le_of_lt hp0, fun k => Nat.not_le_of_lt (Nat.lt_add_right k hp0)]
    injection h with h; subst h
    exact Sat.ok hQ
end Go.AM.S22

namespace Go.AM.S22
namespace Tab
open Go Go.Proofs Go.AM
set_option maxRecDepth 100000
set_option linter.unusedVariables false
set_option maxHeartbeats 4000000
abbrev PS := Option (Nat × List Int × Nat)
def pv : PS → AV
 | none => .nms 6 1
 | some (g, _, n) => .ms 6 g 1 0 n
def po : PS → AObj
 | none => .dead
 | some (g, l, _) => .arr g 1 (List.map (rowA rowI) l)
theorem pv_none : pv none = .nms 6 1 := rfl
theorem pv_some (g : Nat) (l : List Int) (n : Nat) : pv (some (g, l, n)) = .ms 6 g 1 0 n := rfl
attribute [go_sem] pv_none pv_some
def xc (tb : repair_table) : List AV := [.p (iv tb.a.States), .p (.sl none 1 (List.map rowI tb.a.Final)), .p (.sl none 3 (List.map row_Rule tb.a.Rules)), .p (iv tb.w.Relabel), .p (iv tb.w.Remove), .p (iv tb.w.Insert), .p (.sl none 1 (List.map rowI tb.size)), .own 1 (List.map (rowL 1 rowI) tb.cost), .own 1 (List.map (rowL 1 rowI) tb.kids), .own 2 (List.map row_Tree tb.tree)]
def yS (σ : List AObj) (s : PS × List AV) : List AObj := ((σ.set 6 (po s.1)).set 7 (.cells [pv s.1])).set 4 (.cells s.2)
theorem yS_len (σ : List AObj) (s : PS × List AV) : (yS σ s).length = σ.length := by simp [yS]
theorem yS_get (σ : List AObj) (s : PS × List AV) {i : Nat} (h : i ≠ 4 ∧ i ≠ 6 ∧ i ≠ 7) : (yS σ s)[i]? = σ[i]? := by
 unfold yS; rw [List.getElem?_set_ne (by omega), List.getElem?_set_ne (by omega), List.getElem?_set_ne (by omega)]
theorem yS_4 {σ : List AObj} (s : PS × List AV) (h : 10 ≤ σ.length) : (yS σ s)[4]? = some (.cells s.2) := by
 unfold yS; rw [List.getElem?_set_self (by simp; omega)]
theorem yS_6 {σ : List AObj} (s : PS × List AV) (h : 10 ≤ σ.length) : (yS σ s)[6]? = some (po s.1) := by
 unfold yS; rw [List.getElem?_set_ne (by decide), List.getElem?_set_ne (by decide), List.getElem?_set_self (by omega)]
theorem yS_7 {σ : List AObj} (s : PS × List AV) (h : 10 ≤ σ.length) : (yS σ s)[7]? = some (.cells [pv s.1]) := by
 unfold yS; rw [List.getElem?_set_ne (by decide), List.getElem?_set_self (by simp; omega)]
theorem yS_set4 (σ : List AObj) (p : PS) (cs ds : List AV) : (yS σ (p, cs)).set 4 (.cells ds) = yS σ (p, ds) := by
 unfold yS; rw [List.set_set]
theorem yS_set (σ : List AObj) (s p : PS) (cs : List AV) : ((yS σ (s, cs)).set 6 (po p)).set 7 (.cells [pv p]) = yS σ (p, cs) := by
 unfold yS
 rw [List.set_comm _ _ (by decide : 4 ≠ 6), List.set_comm _ _ (by decide : 4 ≠ 7), List.set_comm _ _ (by decide : 7 ≠ 6), List.set_set, List.set_set]
theorem yS_app {σ : List AObj} (s : PS × List AV) (h : 10 ≤ σ.length) (l : List AObj) : yS σ s ++ l = yS (σ ++ l) s := by
 unfold yS
 rw [List.set_append_left _ _ (by omega), List.set_append_left _ _ (by simp; omega), List.set_append_left _ _ (by simp; omega)]
def tabRow0 (n : Nat) (a : Automaton) (w : repair_Weights) (tb : repair_table) (i : Int) (u : Tree) : Option ((List Int × Nat) × repair_table) :=
 (app 32 tb.tree [u]).bind fun v1 =>
 (cutM 0 (w64 (0 - (u.Kids.length : Int)))).bind fun v2 =>
 (app 24 tb.kids [([] : List Int)]).bind fun v3 =>
 (appM 8 0 ([] : List Int) [i]).bind fun v4 =>
 (mkz 8 a.States a.States 0).bind fun v5 =>
 (tree_Size n u).bind fun v6 =>
 rangeI ((a.States).toNat : Int) v5 (fun k1 i1 (s1 : (List Int)) n1 =>
  (repair_table_news_wx (repair_table.mk tb.a tb.w tb.size tb.cost v3 v1) (i1 : Int)).bind fun v12 =>
  (repair_least_int (w64 ((w64 (w.Remove * v6)) + v12)) 2199023255552).bind fun v13 =>
  (idxM ((a.States).toNat) s1 (i1 : Int)).bind fun v14 =>
  n1 (List.set s1 i1 v13)) fun s1 =>
 rangeL a.Rules s1 (fun k2 i2 x2 (s2 : (List Int)) n2 =>
  (idxM ((a.States).toNat) s2 x2.To).bind fun v9 =>
  (repair_table_keep_wxx (repair_table.mk tb.a tb.w tb.size tb.cost v3 v1) x2 i).bind fun v10 =>
  (repair_least_int v9 v10).bind fun v11 =>
  n2 (List.set s2 ((x2.To).toNat) v11)) fun s2 =>
 (allM 0 ((a.States).toNat) s2).bind fun v7 =>
 (app 24 tb.cost [v7]).bind fun v8 =>
 some ((v4, 1), (repair_table.mk tb.a tb.w tb.size v8 v3 v1))
theorem tabRow0_spec {E : Env} (hE5 : get E 5 = .ptr 1 0) (hE7 : get E 7 = .ptr 3 0) (hE12 : get E 12 = .ptr 5 0) (hE13 : get E 13 = .ptr 7 0) (hEl : ∀ t, ltV 9 (get E t) = true) {σ : List AObj} (hl : 10 ≤ σ.length) (n : Nat) (a : Automaton) (w : repair_Weights) (tb : repair_table) (i : Int) (u : Tree) (o1 : σ[1]? = some (.cells [.p (iv a.States), .p (.sl none 1 (List.map rowI a.Final)), .p (.sl none 3 (List.map row_Rule a.Rules))])) (o3 : σ[3]? = some (.cells [.p (iv w.Relabel), .p (iv w.Remove), .p (iv w.Insert)])) (o5 : σ[5]? = some (.cells [.ptr 4 0])) (r : (List Int × Nat) × repair_table) (h : tabRow0 n a w tb i u = some r) (K : Ex × S → Option (Out × List AObj)) (Q : Out × List AObj → Prop)
 (hK : ∀ env loc, Sat (K (.normal, ⟨env, yS σ (some (1, r.1.1, r.1.2), xc r.2) ++ loc, [], none, false⟩)) Q) :
 Sat (run Try.prog T H 81 σ.length 0 B81_0 ⟨(15, .ptr σ.length 0) :: (14, .p (iv i)) :: (38, .p (iv i)) :: (39, .p (.agg [iv u.Sym, .sl none 2 (List.map row_Tree u.Kids)])) :: E, (yS σ (none, xc tb)) ++ [.cells [.p (iv u.Sym), .p (.sl none 2 (List.map row_Tree u.Kids))]], [], none, false⟩ K) Q := by
 unfold tabRow0 at h
 have yl := fun s => yS_len σ s
 have ga : ∀ {s : PS × List AV} {l : List AObj} {i : Nat}, i < 10 → (yS σ s ++ l)[i]? = (yS σ s)[i]? := fun h => List.getElem?_append_left (by rw [yS_len]; omega)
 have b1 : ∀ s l, (yS σ s ++ l)[1]? = some (.cells [.p (iv a.States), .p (.sl none 1 (List.map rowI a.Final)), .p (.sl none 3 (List.map row_Rule a.Rules))]) := fun s l => by rw [ga (by decide), yS_get _ _ (by decide), o1]
 have b3 : ∀ s l, (yS σ s ++ l)[3]? = some (.cells [.p (iv w.Relabel), .p (iv w.Remove), .p (iv w.Insert)]) := fun s l => by rw [ga (by decide), yS_get _ _ (by decide), o3]
 have b5 : ∀ s l, (yS σ s ++ l)[5]? = some (.cells [.ptr 4 0]) := fun s l => by rw [ga (by decide), yS_get _ _ (by decide), o5]
 have b4 : ∀ p cs l, (yS σ (p, cs) ++ l)[4]? = some (.cells cs) := fun p cs l => by rw [ga (by decide), yS_4 _ hl]
 have f7 : ∀ cs k, (yS σ (none, cs) ++ k)[7]? = some (.cells [.nms 6 1]) := fun cs k => by rw [ga (by decide), yS_7 _ hl]; rfl
 have fd : ∀ cs k, (yS σ (none, cs) ++ k)[6]? = some .dead := fun cs k => by rw [ga (by decide), yS_6 _ hl]; rfl
 have f7s : ∀ g o l cs k, (yS σ (some (g, o, l), cs) ++ k)[7]? = some (.cells [.ms 6 g 1 0 l]) := fun g o l cs k => by rw [ga (by decide), yS_7 _ hl]; rfl
 have f6s : ∀ g o l cs k, (yS σ (some (g, o, l), cs) ++ k)[6]? = some (.arr g 1 (List.map (rowA rowI) o)) := fun g o l cs k => by rw [ga (by decide), yS_6 _ hl]; rfl
 have f67 : ∀ p cs k X, ((yS σ (p, cs) ++ k).set 6 X)[7]? = some (.cells [pv p]) := fun p cs k X => by rw [List.getElem?_set_ne (by decide), ga (by decide), yS_7 _ hl]
 have hx : ∀ p cs k ds, (yS σ (p, cs) ++ k).set 4 (.cells ds) = yS σ (p, ds) ++ k := fun p cs k ds => by rw [List.set_append_left _ _ (by rw [yS_len]; omega), yS_set4]
 have hp : ∀ p cs k g v m, ((yS σ (p, cs) ++ k).set 6 (.arr g 1 (List.map (rowA rowI) v))).set 7 (.cells [.ms 6 g 1 0 m]) = yS σ (some (g, v, m), cs) ++ k := fun p cs k g v m => by rw [List.set_append_left _ _ (by rw [yS_len]; omega), List.set_append_left _ _ (by rw [List.length_set, yS_len]; omega)]; exact congrArg (· ++ k) (yS_set σ p (some (g, v, m)) cs)
 have g0 : ∀ s l, (yS σ s ++ l)[σ.length]? = l[0]? := fun s l => sA0 (yS_len σ s)
 have gk : ∀ s l k, (yS σ s ++ l)[σ.length + k]? = l[k]? := fun s l k => sAK (yS_len σ s)
 have s0 : ∀ s l y, (yS σ s ++ l).set σ.length y = yS σ s ++ l.set 0 y := fun s l y => sS0 (yS_len σ s)
 have sk : ∀ s l y k, (yS σ s ++ l).set (σ.length + k) y = yS σ s ++ l.set k y := fun s l y k => sSK (yS_len σ s)
 have t0 : ∀ s l, (yS σ s ++ l).take σ.length = yS σ s := fun s l => sT0 (yS_len σ s)
 have tk : ∀ s l k, (yS σ s ++ l).take (σ.length + k) = yS σ s ++ l.take k := fun s l k => sTK (yS_len σ s)
 have tx : ∀ s, (yS σ s).take σ.length = yS σ s := fun s => sTX (yS_len σ s)
 have lt : ∀ k, 1 < σ.length + k ∧ 3 < σ.length + k ∧ 4 < σ.length + k ∧ 5 < σ.length + k ∧ 6 < σ.length + k ∧ 7 < σ.length + k := fun k => by omega
 have lE : ∀ t k, ltV (σ.length + k) (get E t) = true := fun t k => ltV_mono (by omega) _ (hEl t)
 have lE0 : ∀ t, ltV σ.length (get E t) = true := fun t => ltV_mono (by omega) _ (hEl t)
 unfold xc
 conv => arg 1; arg 7; unfold B81_0 rangeB S22.c81 Try.f81; simp only [rangeIn, Option.getD_some, if_true]
 obtain ⟨v1, e_v1, h⟩ := ob h
 have e_v1a : boundOk (tb.tree.length + 1) 32 = true := bnd_of (by have := (app_some e_v1).1; simpa using this) (by decide)
 have e_v1b : (List.map row_Tree tb.tree) ++ [[iv u.Sym, .sl none 2 (List.map row_Tree u.Kids)]] = List.map row_Tree v1 := by rw [(app_some e_v1).2]; simp [row_Tree_eq]
 obtain ⟨v2, e_v2, h⟩ := ob h
 obtain ⟨e_v2a, e_v2b, e_v2d⟩ := cutM_some e_v2
 have e_v2z : v2 = 0 := Nat.le_zero.1 e_v2b
 have e_v2w := e_v2a
 have e_v2y := e_v2d
 try simp only [w64] at e_v2w e_v2y
 obtain ⟨v3, e_v3, h⟩ := ob h
 have e_v3a : boundOk (tb.kids.length + 1) 24 = true := bnd_of (by have := (app_some e_v3).1; simpa using this) (by decide)
 have e_v3b : (List.map (rowL 1 rowI) tb.kids) ++ [[.sl none 1 []]] = List.map (rowL 1 rowI) v3 := by rw [(app_some e_v3).2]; simp [rowI, rowL]
 obtain ⟨v4, e_v4, h⟩ := ob h
 have e_v4a := (appM_some e_v4).1
 have e_v4b : boundOk (1) 8 = true := by decide
 have e_v4l : v4.length = 1 := by rw [← (appM_some e_v4).2.2]; rfl
 have e_v4e : (List.map (rowA rowI) v4).isEmpty = false := by rw [← (appM_some e_v4).2.2]; rfl
 have e_v4c : [[AV.p (iv i)]] = List.map (rowA rowI) v4 := by rw [← (appM_some e_v4).2.2]; simp [rowA, rowI]
 obtain ⟨v5, e_v5, h⟩ := ob h
 obtain ⟨e_v51, e_v52, e_v53, e_v54⟩ := mkz_some e_v5
 have e_v5b : boundOk (a.States).toNat 8 = true := bnd_of e_v53 (by decide)
 have e_v5r : List.replicate (a.States).toNat [AV.p (iv 0)] = List.map (rowA rowI) v5 := by rw [e_v54]; exact rep_map (by first | rfl | simp only [go_sem, List.map_nil])
 obtain ⟨v6, e_v6, h⟩ := ob h
 have e_v6c := spec38 n u v6 e_v6
 simp only [go_sem, Int.natCast_zero, e_v1a, e_v1b, e_v2a, e_v2d, e_v2z, e_v2w, e_v2y, clone_nil, e_v3a, e_v3b, e_v4b, e_v4l, e_v4e, e_v4c, e_v51, e_v52, e_v5b, e_v5r, e_v6c, hE5, hE7, hE12, hE13, yl, b1, b3, b5, b4, f7, f7s, f6s, f67, fd, hx, hp, g0, gk, s0, sk, t0, tk, tx, lt, lE, lE0]
 refine run_rangeI (c := L81_2) (live := [5, 7, 12, 13, 14, 17, 18, 84, 85]) (by simp only [go_sem]) (M := fun i1 (s1 : (List Int)) => [(5, .ptr 1 0), (7, .ptr 3 0), (12, .ptr 5 0), (13, .ptr 7 0), (14, .p (iv i)), (17, .ms (σ.length + 1) 0 1 0 ((a.States).toNat)), (18, .p (iv (w64 (w.Remove * v6)))), (84, .p (iv ((a.States).toNat : Int))), (85, .p (iv (i1 : Int)))]) (Z := fun i1 (s1 : (List Int)) => ((yS σ (some (1, v4, 1), [.p (iv tb.a.States), .p (.sl none 1 (List.map rowI tb.a.Final)), .p (.sl none 3 (List.map row_Rule tb.a.Rules)), .p (iv tb.w.Relabel), .p (iv tb.w.Remove), .p (iv tb.w.Insert), .p (.sl none 1 (List.map rowI tb.size)), .own 1 (List.map (rowL 1 rowI) tb.cost), .own 1 (List.map (rowL 1 rowI) v3), .own 2 (List.map row_Tree v1)])) ++ [.cells [.p (iv u.Sym), .p (.sl none 2 (List.map row_Tree u.Kids))], .arr 0 1 (List.map (rowA rowI) s1)])) (N := fun (s1 : (List Int)) => ⟨[(5, .ptr 1 0), (7, .ptr 3 0), (12, .ptr 5 0), (13, .ptr 7 0), (14, .p (iv i)), (17, .ms (σ.length + 1) 0 1 0 ((a.States).toNat))], ((yS σ (some (1, v4, 1), [.p (iv tb.a.States), .p (.sl none 1 (List.map rowI tb.a.Final)), .p (.sl none 3 (List.map row_Rule tb.a.Rules)), .p (iv tb.w.Relabel), .p (iv tb.w.Remove), .p (iv tb.w.Insert), .p (.sl none 1 (List.map rowI tb.size)), .own 1 (List.map (rowL 1 rowI) tb.cost), .own 1 (List.map (rowL 1 rowI) v3), .own 2 (List.map row_Tree v1)])) ++ [.cells [.p (iv u.Sym), .p (.sl none 2 (List.map row_Tree u.Kids))], .arr 0 1 (List.map (rowA rowI) s1)]), [], none, false⟩) h (by first | rfl | (simp only [go_sem, hE5, hE7, hE12, hE13, yl, b1, b3, b5, b4, f7, f7s, f6s, f67, fd, hx, hp, g0, gk, s0, sk, t0, tk, tx, lt, lE, lE0]; done) | (simp only [go_sem, hE5, hE7, hE12, hE13, yl, b1, b3, b5, b4, f7, f7s, f6s, f67, fd, hx, hp, g0, gk, s0, sk, t0, tk, tx, lt, lE, lE0]; rfl)) (by first | rfl | (simp only [go_sem, hE5, hE7, hE12, hE13, yl, b1, b3, b5, b4, f7, f7s, f6s, f67, fd, hx, hp, g0, gk, s0, sk, t0, tk, tx, lt, lE, lE0]; done) | (simp only [go_sem, hE5, hE7, hE12, hE13, yl, b1, b3, b5, b4, f7, f7s, f6s, f67, fd, hx, hp, g0, gk, s0, sk, t0, tk, tx, lt, lE, lE0]; rfl)) (fun _ _ => rfl) ?_ ?_ ?_
 ·intro s1 h
  try dsimp only at h ⊢
  simp only [go_sem, hE5, hE7, hE12, hE13, yl, b1, b3, b5, b4, f7, f7s, f6s, f67, fd, hx, hp, g0, gk, s0, sk, t0, tk, tx, lt, lE, lE0]
  refine run_rangeL (c := L81_4) (live := [5, 7, 12, 13, 14, 17, 99, 100, 101]) (by simp only [go_sem]) (M := fun i2 (s2 : (List Int)) => [(5, .ptr 1 0), (7, .ptr 3 0), (12, .ptr 5 0), (13, .ptr 7 0), (14, .p (iv i)), (17, .ms (σ.length + 1) 0 1 0 ((a.States).toNat)), (99, .p (.sl none 3 (List.map row_Rule a.Rules))), (100, .p (iv (a.Rules.length : Int))), (101, .p (iv (i2 : Int)))]) (Z := fun i2 (s2 : (List Int)) => ((yS σ (some (1, v4, 1), [.p (iv tb.a.States), .p (.sl none 1 (List.map rowI tb.a.Final)), .p (.sl none 3 (List.map row_Rule tb.a.Rules)), .p (iv tb.w.Relabel), .p (iv tb.w.Remove), .p (iv tb.w.Insert), .p (.sl none 1 (List.map rowI tb.size)), .own 1 (List.map (rowL 1 rowI) tb.cost), .own 1 (List.map (rowL 1 rowI) v3), .own 2 (List.map row_Tree v1)])) ++ [.cells [.p (iv u.Sym), .p (.sl none 2 (List.map row_Tree u.Kids))], .arr 0 1 (List.map (rowA rowI) s2)])) (N := fun (s2 : (List Int)) => ⟨[(5, .ptr 1 0), (7, .ptr 3 0), (12, .ptr 5 0), (13, .ptr 7 0), (17, .ms (σ.length + 1) 0 1 0 ((a.States).toNat))], ((yS σ (some (1, v4, 1), [.p (iv tb.a.States), .p (.sl none 1 (List.map rowI tb.a.Final)), .p (.sl none 3 (List.map row_Rule tb.a.Rules)), .p (iv tb.w.Relabel), .p (iv tb.w.Remove), .p (iv tb.w.Insert), .p (.sl none 1 (List.map rowI tb.size)), .own 1 (List.map (rowL 1 rowI) tb.cost), .own 1 (List.map (rowL 1 rowI) v3), .own 2 (List.map row_Tree v1)])) ++ [.cells [.p (iv u.Sym), .p (.sl none 2 (List.map row_Tree u.Kids))], .arr 0 1 (List.map (rowA rowI) s2)]), [], none, false⟩) h (by first | rfl | (simp only [go_sem, hE5, hE7, hE12, hE13, yl, b1, b3, b5, b4, f7, f7s, f6s, f67, fd, hx, hp, g0, gk, s0, sk, t0, tk, tx, lt, lE, lE0]; done) | (simp only [go_sem, hE5, hE7, hE12, hE13, yl, b1, b3, b5, b4, f7, f7s, f6s, f67, fd, hx, hp, g0, gk, s0, sk, t0, tk, tx, lt, lE, lE0]; rfl)) (by first | rfl | (simp only [go_sem, hE5, hE7, hE12, hE13, yl, b1, b3, b5, b4, f7, f7s, f6s, f67, fd, hx, hp, g0, gk, s0, sk, t0, tk, tx, lt, lE, lE0]; done) | (simp only [go_sem, hE5, hE7, hE12, hE13, yl, b1, b3, b5, b4, f7, f7s, f6s, f67, fd, hx, hp, g0, gk, s0, sk, t0, tk, tx, lt, lE, lE0]; rfl)) (fun _ _ => rfl) ?_ ?_ ?_
  ·intro s2 h
   try dsimp only at h ⊢
   obtain ⟨v7, e_v7, h⟩ := ob h
   have e_v7a := (allM_some e_v7).1
   have e_v7b := (allM_some e_v7).2
   try simp only [Nat.zero_add] at e_v7a
   try simp only [List.drop_zero] at e_v7b
   obtain ⟨v8, e_v8, h⟩ := ob h
   have e_v8a : boundOk (tb.cost.length + 1) 24 = true := bnd_of (by have := (app_some e_v8).1; simpa using this) (by decide)
   have e_v8b : (List.map (rowL 1 rowI) tb.cost) ++ [[.sl none 1 (List.map rowI v7)]] = List.map (rowL 1 rowI) v8 := by rw [(app_some e_v8).2]; simp [rowI, rowL]
   simp only [go_sem, e_v7a, e_v7b, e_v8a, e_v8b, hE5, hE7, hE12, hE13, yl, b1, b3, b5, b4, f7, f7s, f6s, f67, fd, hx, hp, g0, gk, s0, sk, t0, tk, tx, lt, lE, lE0]
   injection h with h; subst h
   exact hK _ _
  ·intro K2 s2 hb2 he2
   try dsimp only
   conv => arg 1; arg 7; unfold L81_4 loopAt S22.c81 Try.f81; simp only [loopIn, Option.getD_some, if_true]
   simp only [go_sem, he2, hE5, hE7, hE12, hE13, yl, b1, b3, b5, b4, f7, f7s, f6s, f67, fd, hx, hp, g0, gk, s0, sk, t0, tk, tx, lt, lE, lE0]
   exact hb2
  ·intro K2 k2 i2 x2 s2 n2 hR2 hE2 hb2 hx2 hi2 hw2 ih2 h
   try dsimp only at h ⊢
   conv => arg 1; arg 7; unfold L81_4 loopAt S22.c81 Try.f81; simp only [loopIn, Option.getD_some, if_true]
   obtain ⟨v9, e_v9, h⟩ := ob h
   obtain ⟨e_v9a, e_v9b, e_v9d⟩ := idxM_some e_v9
   obtain ⟨v10, e_v10, h⟩ := ob h
   have e_v10c : call Try.prog T H (.fn 83) [.ptr 4 0, .p (.agg [iv x2.Sym, .sl none 1 (List.map rowI x2.From), iv x2.To]), .p (iv i)] ((yS σ (some (1, v4, 1), [.p (iv tb.a.States), .p (.sl none 1 (List.map rowI tb.a.Final)), .p (.sl none 3 (List.map row_Rule tb.a.Rules)), .p (iv tb.w.Relabel), .p (iv tb.w.Remove), .p (iv tb.w.Insert), .p (.sl none 1 (List.map rowI tb.size)), .own 1 (List.map (rowL 1 rowI) tb.cost), .own 1 (List.map (rowL 1 rowI) v3), .own 2 (List.map row_Tree v1)])) ++ [.cells [.p (iv u.Sym), .p (.sl none 2 (List.map row_Tree u.Kids))], .arr 0 1 (List.map (rowA rowI) s2), .cells [.p (iv x2.Sym), .p (.sl none 1 (List.map rowI x2.From)), .p (iv x2.To)]]) = some (.ret (.p (iv v10)), ((yS σ (some (1, v4, 1), [.p (iv tb.a.States), .p (.sl none 1 (List.map rowI tb.a.Final)), .p (.sl none 3 (List.map row_Rule tb.a.Rules)), .p (iv tb.w.Relabel), .p (iv tb.w.Remove), .p (iv tb.w.Insert), .p (.sl none 1 (List.map rowI tb.size)), .own 1 (List.map (rowL 1 rowI) tb.cost), .own 1 (List.map (rowL 1 rowI) v3), .own 2 (List.map row_Tree v1)])) ++ [.cells [.p (iv u.Sym), .p (.sl none 2 (List.map row_Tree u.Kids))], .arr 0 1 (List.map (rowA rowI) s2), .cells [.p (iv x2.Sym), .p (.sl none 1 (List.map rowI x2.From)), .p (iv x2.To)]])) := by have q := spec83_wxx ((yS σ (some (1, v4, 1), [.p (iv tb.a.States), .p (.sl none 1 (List.map rowI tb.a.Final)), .p (.sl none 3 (List.map row_Rule tb.a.Rules)), .p (iv tb.w.Relabel), .p (iv tb.w.Remove), .p (iv tb.w.Insert), .p (.sl none 1 (List.map rowI tb.size)), .own 1 (List.map (rowL 1 rowI) tb.cost), .own 1 (List.map (rowL 1 rowI) v3), .own 2 (List.map row_Tree v1)])) ++ [.cells [.p (iv u.Sym), .p (.sl none 2 (List.map row_Tree u.Kids))], .arr 0 1 (List.map (rowA rowI) s2), .cells [.p (iv x2.Sym), .p (.sl none 1 (List.map rowI x2.From)), .p (iv x2.To)]]) 4 (by simp only [yl, List.length_append, List.length_set, List.length_cons, List.length_nil]; omega) (repair_table.mk tb.a tb.w tb.size tb.cost v3 v1) x2 i v10 e_v10; first | (simp only [go_sem, hE5, hE7, hE12, hE13, yl, b1, b3, b5, b4, f7, f7s, f6s, f67, fd, hx, hp, g0, gk, s0, sk, t0, tk, tx, lt, lE, lE0] at q ⊢; exact q) | exact q
   obtain ⟨v11, e_v11, h⟩ := ob h
   have e_v11c := spec76 v9 v10 v11 e_v11
   have e_y1 : List.set (List.map (rowA rowI) s2) ((x2.To).toNat) [.p (iv v11)] = List.map (rowA rowI) (List.set s2 ((x2.To).toNat) v11) := map_set' (by first | rfl | simp only [go_sem, List.map_cons, List.map_nil])
   simp only [go_sem, hx2, hi2, hw2, e_v9a, e_v9b, e_v9d, e_v10c, e_v11c, e_y1, hR2, hE2, hE5, hE7, hE12, hE13, yl, b1, b3, b5, b4, f7, f7s, f6s, f67, fd, hx, hp, g0, gk, s0, sk, t0, tk, tx, lt, lE, lE0]
   exact ih2 (List.set s2 ((x2.To).toNat) v11) h
 ·intro K1 i1 s1 hb1 he1
  try dsimp only
  conv => arg 1; arg 7; unfold L81_2 loopAt S22.c81 Try.f81; simp only [loopIn, Option.getD_some, if_true]
  simp only [go_sem, he1, hE5, hE7, hE12, hE13, yl, b1, b3, b5, b4, f7, f7s, f6s, f67, fd, hx, hp, g0, gk, s0, sk, t0, tk, tx, lt, lE, lE0]
  exact hb1
 ·intro K1 k1 i1 s1 n1 hR1 hE1 hb1 hi1 hw1 ih1 h
  try dsimp only at h ⊢
  conv => arg 1; arg 7; unfold L81_2 loopAt S22.c81 Try.f81; simp only [loopIn, Option.getD_some, if_true]
  obtain ⟨v12, e_v12, h⟩ := ob h
  have e_v12c : call Try.prog T H (.fn 98) [.ptr 4 0, .p (iv (i1 : Int))] ((yS σ (some (1, v4, 1), [.p (iv tb.a.States), .p (.sl none 1 (List.map rowI tb.a.Final)), .p (.sl none 3 (List.map row_Rule tb.a.Rules)), .p (iv tb.w.Relabel), .p (iv tb.w.Remove), .p (iv tb.w.Insert), .p (.sl none 1 (List.map rowI tb.size)), .own 1 (List.map (rowL 1 rowI) tb.cost), .own 1 (List.map (rowL 1 rowI) v3), .own 2 (List.map row_Tree v1)])) ++ [.cells [.p (iv u.Sym), .p (.sl none 2 (List.map row_Tree u.Kids))], .arr 0 1 (List.map (rowA rowI) s1)]) = some (.ret (.p (iv v12)), ((yS σ (some (1, v4, 1), [.p (iv tb.a.States), .p (.sl none 1 (List.map rowI tb.a.Final)), .p (.sl none 3 (List.map row_Rule tb.a.Rules)), .p (iv tb.w.Relabel), .p (iv tb.w.Remove), .p (iv tb.w.Insert), .p (.sl none 1 (List.map rowI tb.size)), .own 1 (List.map (rowL 1 rowI) tb.cost), .own 1 (List.map (rowL 1 rowI) v3), .own 2 (List.map row_Tree v1)])) ++ [.cells [.p (iv u.Sym), .p (.sl none 2 (List.map row_Tree u.Kids))], .arr 0 1 (List.map (rowA rowI) s1)])) := by have q := spec98_wx ((yS σ (some (1, v4, 1), [.p (iv tb.a.States), .p (.sl none 1 (List.map rowI tb.a.Final)), .p (.sl none 3 (List.map row_Rule tb.a.Rules)), .p (iv tb.w.Relabel), .p (iv tb.w.Remove), .p (iv tb.w.Insert), .p (.sl none 1 (List.map rowI tb.size)), .own 1 (List.map (rowL 1 rowI) tb.cost), .own 1 (List.map (rowL 1 rowI) v3), .own 2 (List.map row_Tree v1)])) ++ [.cells [.p (iv u.Sym), .p (.sl none 2 (List.map row_Tree u.Kids))], .arr 0 1 (List.map (rowA rowI) s1)]) 4 (by simp only [yl, List.length_append, List.length_set, List.length_cons, List.length_nil]; omega) (repair_table.mk tb.a tb.w tb.size tb.cost v3 v1) (i1 : Int) v12 e_v12; first | (simp only [go_sem, hE5, hE7, hE12, hE13, yl, b1, b3, b5, b4, f7, f7s, f6s, f67, fd, hx, hp, g0, gk, s0, sk, t0, tk, tx, lt, lE, lE0] at q ⊢; exact q) | exact q
  obtain ⟨v13, e_v13, h⟩ := ob h
  have e_v13c : call Try.prog T H (.fn 76) [.p (iv (w64 ((w64 (w.Remove * v6)) + v12))), .p (iv 2199023255552)] [] = some (.ret (.p (iv v13)), []) := spec76 (w64 ((w64 (w.Remove * v6)) + v12)) 2199023255552 v13 e_v13
  obtain ⟨v14, e_v14, h⟩ := ob h
  obtain ⟨e_v14a, e_v14b, e_v14d⟩ := idxM_some e_v14
  simp only [Int.toNat_natCast] at e_v14b
  simp only [Int.toNat_natCast] at e_v14d
  have e_y2 : List.set (List.map (rowA rowI) s1) i1 [.p (iv v13)] = List.map (rowA rowI) (List.set s1 i1 v13) := map_set' (by first | rfl | simp only [go_sem, List.map_cons, List.map_nil])
  simp only [go_sem, hi1, hw1, e_v12c, e_v13c, e_v14b, e_v14d, e_y2, hR1, hE1, hE5, hE7, hE12, hE13, yl, b1, b3, b5, b4, f7, f7s, f6s, f67, fd, hx, hp, g0, gk, s0, sk, t0, tk, tx, lt, lE, lE0]
  exact ih1 (List.set s1 i1 v13) h
def tabRow (n : Nat) (a : Automaton) (w : repair_Weights) (tb : repair_table) (i : Int) (u : Tree) (o : List Int) (l : Nat) : Option ((List Int × Nat) × repair_table) :=
 (app 32 tb.tree [u]).bind fun v1 =>
 (cutM l (w64 ((l : Int) - (u.Kids.length : Int)))).bind fun v2 =>
 (slices_Clone_q o (l - v2) v2).bind fun v3 =>
 (app 24 tb.kids [v3]).bind fun v4 =>
 (appM 8 v2 o [i]).bind fun v5 =>
 (mkz 8 a.States a.States 0).bind fun v6 =>
 (tree_Size n u).bind fun v7 =>
 rangeI ((a.States).toNat : Int) v6 (fun k1 i1 (s1 : (List Int)) n1 =>
  (repair_table_news_wx (repair_table.mk tb.a tb.w tb.size tb.cost v4 v1) (i1 : Int)).bind fun v13 =>
  (repair_least_int (w64 ((w64 (w.Remove * v7)) + v13)) 2199023255552).bind fun v14 =>
  (idxM ((a.States).toNat) s1 (i1 : Int)).bind fun v15 =>
  n1 (List.set s1 i1 v14)) fun s1 =>
 rangeL a.Rules s1 (fun k2 i2 x2 (s2 : (List Int)) n2 =>
  (idxM ((a.States).toNat) s2 x2.To).bind fun v10 =>
  (repair_table_keep_wxx (repair_table.mk tb.a tb.w tb.size tb.cost v4 v1) x2 i).bind fun v11 =>
  (repair_least_int v10 v11).bind fun v12 =>
  n2 (List.set s2 ((x2.To).toNat) v12)) fun s2 =>
 (allM 0 ((a.States).toNat) s2).bind fun v8 =>
 (app 24 tb.cost [v8]).bind fun v9 =>
 some ((v5, (v2 + 1)), (repair_table.mk tb.a tb.w tb.size v9 v4 v1))
theorem tabRow_spec {E : Env} (hE5 : get E 5 = .ptr 1 0) (hE7 : get E 7 = .ptr 3 0) (hE12 : get E 12 = .ptr 5 0) (hE13 : get E 13 = .ptr 7 0) (hEl : ∀ t, ltV 9 (get E t) = true) {σ : List AObj} (hl : 10 ≤ σ.length) (n : Nat) (a : Automaton) (w : repair_Weights) (tb : repair_table) (i : Int) (u : Tree) (g : Nat) (o : List Int) (l : Nat) (o1 : σ[1]? = some (.cells [.p (iv a.States), .p (.sl none 1 (List.map rowI a.Final)), .p (.sl none 3 (List.map row_Rule a.Rules))])) (o3 : σ[3]? = some (.cells [.p (iv w.Relabel), .p (iv w.Remove), .p (iv w.Insert)])) (o5 : σ[5]? = some (.cells [.ptr 4 0])) (r : (List Int × Nat) × repair_table) (h : tabRow n a w tb i u o l = some r) (K : Ex × S → Option (Out × List AObj)) (Q : Out × List AObj → Prop)
 (hK : ∀ env loc, Sat (K (.normal, ⟨env, yS σ (some ((g + 1), r.1.1, r.1.2), xc r.2) ++ loc, [], none, false⟩)) Q) :
 Sat (run Try.prog T H 81 σ.length 0 B81_0 ⟨(15, .ptr σ.length 0) :: (14, .p (iv i)) :: (38, .p (iv i)) :: (39, .p (.agg [iv u.Sym, .sl none 2 (List.map row_Tree u.Kids)])) :: E, (yS σ (some (g, o, l), xc tb)) ++ [.cells [.p (iv u.Sym), .p (.sl none 2 (List.map row_Tree u.Kids))]], [], none, false⟩ K) Q := by
 unfold tabRow at h
 have yl := fun s => yS_len σ s
 have ga : ∀ {s : PS × List AV} {l : List AObj} {i : Nat}, i < 10 → (yS σ s ++ l)[i]? = (yS σ s)[i]? := fun h => List.getElem?_append_left (by rw [yS_len]; omega)
 have b1 : ∀ s l, (yS σ s ++ l)[1]? = some (.cells [.p (iv a.States), .p (.sl none 1 (List.map rowI a.Final)), .p (.sl none 3 (List.map row_Rule a.Rules))]) := fun s l => by rw [ga (by decide), yS_get _ _ (by decide), o1]
 have b3 : ∀ s l, (yS σ s ++ l)[3]? = some (.cells [.p (iv w.Relabel), .p (iv w.Remove), .p (iv w.Insert)]) := fun s l => by rw [ga (by decide), yS_get _ _ (by decide), o3]
 have b5 : ∀ s l, (yS σ s ++ l)[5]? = some (.cells [.ptr 4 0]) := fun s l => by rw [ga (by decide), yS_get _ _ (by decide), o5]
 have b4 : ∀ p cs l, (yS σ (p, cs) ++ l)[4]? = some (.cells cs) := fun p cs l => by rw [ga (by decide), yS_4 _ hl]
 have f7 : ∀ cs k, (yS σ (none, cs) ++ k)[7]? = some (.cells [.nms 6 1]) := fun cs k => by rw [ga (by decide), yS_7 _ hl]; rfl
 have fd : ∀ cs k, (yS σ (none, cs) ++ k)[6]? = some .dead := fun cs k => by rw [ga (by decide), yS_6 _ hl]; rfl
 have f7s : ∀ g o l cs k, (yS σ (some (g, o, l), cs) ++ k)[7]? = some (.cells [.ms 6 g 1 0 l]) := fun g o l cs k => by rw [ga (by decide), yS_7 _ hl]; rfl
 have f6s : ∀ g o l cs k, (yS σ (some (g, o, l), cs) ++ k)[6]? = some (.arr g 1 (List.map (rowA rowI) o)) := fun g o l cs k => by rw [ga (by decide), yS_6 _ hl]; rfl
 have f67 : ∀ p cs k X, ((yS σ (p, cs) ++ k).set 6 X)[7]? = some (.cells [pv p]) := fun p cs k X => by rw [List.getElem?_set_ne (by decide), ga (by decide), yS_7 _ hl]
 have hx : ∀ p cs k ds, (yS σ (p, cs) ++ k).set 4 (.cells ds) = yS σ (p, ds) ++ k := fun p cs k ds => by rw [List.set_append_left _ _ (by rw [yS_len]; omega), yS_set4]
 have hp : ∀ p cs k g v m, ((yS σ (p, cs) ++ k).set 6 (.arr g 1 (List.map (rowA rowI) v))).set 7 (.cells [.ms 6 g 1 0 m]) = yS σ (some (g, v, m), cs) ++ k := fun p cs k g v m => by rw [List.set_append_left _ _ (by rw [yS_len]; omega), List.set_append_left _ _ (by rw [List.length_set, yS_len]; omega)]; exact congrArg (· ++ k) (yS_set σ p (some (g, v, m)) cs)
 have g0 : ∀ s l, (yS σ s ++ l)[σ.length]? = l[0]? := fun s l => sA0 (yS_len σ s)
 have gk : ∀ s l k, (yS σ s ++ l)[σ.length + k]? = l[k]? := fun s l k => sAK (yS_len σ s)
 have s0 : ∀ s l y, (yS σ s ++ l).set σ.length y = yS σ s ++ l.set 0 y := fun s l y => sS0 (yS_len σ s)
 have sk : ∀ s l y k, (yS σ s ++ l).set (σ.length + k) y = yS σ s ++ l.set k y := fun s l y k => sSK (yS_len σ s)
 have t0 : ∀ s l, (yS σ s ++ l).take σ.length = yS σ s := fun s l => sT0 (yS_len σ s)
 have tk : ∀ s l k, (yS σ s ++ l).take (σ.length + k) = yS σ s ++ l.take k := fun s l k => sTK (yS_len σ s)
 have tx : ∀ s, (yS σ s).take σ.length = yS σ s := fun s => sTX (yS_len σ s)
 have lt : ∀ k, 1 < σ.length + k ∧ 3 < σ.length + k ∧ 4 < σ.length + k ∧ 5 < σ.length + k ∧ 6 < σ.length + k ∧ 7 < σ.length + k := fun k => by omega
 have lE : ∀ t k, ltV (σ.length + k) (get E t) = true := fun t k => ltV_mono (by omega) _ (hEl t)
 have lE0 : ∀ t, ltV σ.length (get E t) = true := fun t => ltV_mono (by omega) _ (hEl t)
 unfold xc
 conv => arg 1; arg 7; unfold B81_0 rangeB S22.c81 Try.f81; simp only [rangeIn, Option.getD_some, if_true]
 obtain ⟨v1, e_v1, h⟩ := ob h
 have e_v1a : boundOk (tb.tree.length + 1) 32 = true := bnd_of (by have := (app_some e_v1).1; simpa using this) (by decide)
 have e_v1b : (List.map row_Tree tb.tree) ++ [[iv u.Sym, .sl none 2 (List.map row_Tree u.Kids)]] = List.map row_Tree v1 := by rw [(app_some e_v1).2]; simp [row_Tree_eq]
 obtain ⟨v2, e_v2, h⟩ := ob h
 obtain ⟨e_v2a, e_v2b, e_v2d⟩ := cutM_some e_v2
 have e_v2w := e_v2a
 have e_v2y := e_v2d
 try simp only [w64] at e_v2w e_v2y
 obtain ⟨v3, e_v3, h⟩ := ob h
 have e_v3c : call Try.prog T H (.fn 97) [.ms 0 g 1 v2 (l - v2)] [.arr g 1 (List.map (rowA rowI) o)] = some (.ret (.p (.sl none 1 (List.map rowI v3))), [.arr g 1 (List.map (rowA rowI) o)]) := spec97 g o (l - v2) v2 v3 e_v3
 obtain ⟨v4, e_v4, h⟩ := ob h
 have e_v4a : boundOk (tb.kids.length + 1) 24 = true := bnd_of (by have := (app_some e_v4).1; simpa using this) (by decide)
 have e_v4b : (List.map (rowL 1 rowI) tb.kids) ++ [[.sl none 1 (List.map rowI v3)]] = List.map (rowL 1 rowI) v4 := by rw [(app_some e_v4).2]; simp [rowI, rowL]
 obtain ⟨v5, e_v5, h⟩ := ob h
 have e_v5a := (appM_some e_v5).1
 have e_v5b : boundOk (v2 + 1) 8 = true := bnd_of (by have := (appM_some e_v5).2.1; simpa using this) (by decide)
 have e_v5c : List.map (rowA rowI) (List.take v2 o) ++ [[AV.p (iv i)]] = List.map (rowA rowI) v5 := by rw [← (appM_some e_v5).2.2]; simp [rowA, rowI]
 obtain ⟨v6, e_v6, h⟩ := ob h
 obtain ⟨e_v61, e_v62, e_v63, e_v64⟩ := mkz_some e_v6
 have e_v6b : boundOk (a.States).toNat 8 = true := bnd_of e_v63 (by decide)
 have e_v6r : List.replicate (a.States).toNat [AV.p (iv 0)] = List.map (rowA rowI) v6 := by rw [e_v64]; exact rep_map (by first | rfl | simp only [go_sem, List.map_nil])
 obtain ⟨v7, e_v7, h⟩ := ob h
 have e_v7c := spec38 n u v7 e_v7
 simp only [go_sem, e_v1a, e_v1b, e_v2a, e_v2b, e_v2d, e_v2w, e_v2y, e_v3c, e_v4a, e_v4b, e_v5b, e_v5a, e_v5c, e_v61, e_v62, e_v6b, e_v6r, e_v7c, hE5, hE7, hE12, hE13, yl, b1, b3, b5, b4, f7, f7s, f6s, f67, fd, hx, hp, g0, gk, s0, sk, t0, tk, tx, lt, lE, lE0]
 refine run_rangeI (c := L81_2) (live := [5, 7, 12, 13, 14, 17, 18, 84, 85]) (by simp only [go_sem]) (M := fun i1 (s1 : (List Int)) => [(5, .ptr 1 0), (7, .ptr 3 0), (12, .ptr 5 0), (13, .ptr 7 0), (14, .p (iv i)), (17, .ms (σ.length + 1) 0 1 0 ((a.States).toNat)), (18, .p (iv (w64 (w.Remove * v7)))), (84, .p (iv ((a.States).toNat : Int))), (85, .p (iv (i1 : Int)))]) (Z := fun i1 (s1 : (List Int)) => ((yS σ (some ((g + 1), v5, (v2 + 1)), [.p (iv tb.a.States), .p (.sl none 1 (List.map rowI tb.a.Final)), .p (.sl none 3 (List.map row_Rule tb.a.Rules)), .p (iv tb.w.Relabel), .p (iv tb.w.Remove), .p (iv tb.w.Insert), .p (.sl none 1 (List.map rowI tb.size)), .own 1 (List.map (rowL 1 rowI) tb.cost), .own 1 (List.map (rowL 1 rowI) v4), .own 2 (List.map row_Tree v1)])) ++ [.cells [.p (iv u.Sym), .p (.sl none 2 (List.map row_Tree u.Kids))], .arr 0 1 (List.map (rowA rowI) s1)])) (N := fun (s1 : (List Int)) => ⟨[(5, .ptr 1 0), (7, .ptr 3 0), (12, .ptr 5 0), (13, .ptr 7 0), (14, .p (iv i)), (17, .ms (σ.length + 1) 0 1 0 ((a.States).toNat))], ((yS σ (some ((g + 1), v5, (v2 + 1)), [.p (iv tb.a.States), .p (.sl none 1 (List.map rowI tb.a.Final)), .p (.sl none 3 (List.map row_Rule tb.a.Rules)), .p (iv tb.w.Relabel), .p (iv tb.w.Remove), .p (iv tb.w.Insert), .p (.sl none 1 (List.map rowI tb.size)), .own 1 (List.map (rowL 1 rowI) tb.cost), .own 1 (List.map (rowL 1 rowI) v4), .own 2 (List.map row_Tree v1)])) ++ [.cells [.p (iv u.Sym), .p (.sl none 2 (List.map row_Tree u.Kids))], .arr 0 1 (List.map (rowA rowI) s1)]), [], none, false⟩) h (by first | rfl | (simp only [go_sem, hE5, hE7, hE12, hE13, yl, b1, b3, b5, b4, f7, f7s, f6s, f67, fd, hx, hp, g0, gk, s0, sk, t0, tk, tx, lt, lE, lE0]; done) | (simp only [go_sem, hE5, hE7, hE12, hE13, yl, b1, b3, b5, b4, f7, f7s, f6s, f67, fd, hx, hp, g0, gk, s0, sk, t0, tk, tx, lt, lE, lE0]; rfl)) (by first | rfl | (simp only [go_sem, hE5, hE7, hE12, hE13, yl, b1, b3, b5, b4, f7, f7s, f6s, f67, fd, hx, hp, g0, gk, s0, sk, t0, tk, tx, lt, lE, lE0]; done) | (simp only [go_sem, hE5, hE7, hE12, hE13, yl, b1, b3, b5, b4, f7, f7s, f6s, f67, fd, hx, hp, g0, gk, s0, sk, t0, tk, tx, lt, lE, lE0]; rfl)) (fun _ _ => rfl) ?_ ?_ ?_
 ·intro s1 h
  try dsimp only at h ⊢
  simp only [go_sem, hE5, hE7, hE12, hE13, yl, b1, b3, b5, b4, f7, f7s, f6s, f67, fd, hx, hp, g0, gk, s0, sk, t0, tk, tx, lt, lE, lE0]
  refine run_rangeL (c := L81_4) (live := [5, 7, 12, 13, 14, 17, 99, 100, 101]) (by simp only [go_sem]) (M := fun i2 (s2 : (List Int)) => [(5, .ptr 1 0), (7, .ptr 3 0), (12, .ptr 5 0), (13, .ptr 7 0), (14, .p (iv i)), (17, .ms (σ.length + 1) 0 1 0 ((a.States).toNat)), (99, .p (.sl none 3 (List.map row_Rule a.Rules))), (100, .p (iv (a.Rules.length : Int))), (101, .p (iv (i2 : Int)))]) (Z := fun i2 (s2 : (List Int)) => ((yS σ (some ((g + 1), v5, (v2 + 1)), [.p (iv tb.a.States), .p (.sl none 1 (List.map rowI tb.a.Final)), .p (.sl none 3 (List.map row_Rule tb.a.Rules)), .p (iv tb.w.Relabel), .p (iv tb.w.Remove), .p (iv tb.w.Insert), .p (.sl none 1 (List.map rowI tb.size)), .own 1 (List.map (rowL 1 rowI) tb.cost), .own 1 (List.map (rowL 1 rowI) v4), .own 2 (List.map row_Tree v1)])) ++ [.cells [.p (iv u.Sym), .p (.sl none 2 (List.map row_Tree u.Kids))], .arr 0 1 (List.map (rowA rowI) s2)])) (N := fun (s2 : (List Int)) => ⟨[(5, .ptr 1 0), (7, .ptr 3 0), (12, .ptr 5 0), (13, .ptr 7 0), (17, .ms (σ.length + 1) 0 1 0 ((a.States).toNat))], ((yS σ (some ((g + 1), v5, (v2 + 1)), [.p (iv tb.a.States), .p (.sl none 1 (List.map rowI tb.a.Final)), .p (.sl none 3 (List.map row_Rule tb.a.Rules)), .p (iv tb.w.Relabel), .p (iv tb.w.Remove), .p (iv tb.w.Insert), .p (.sl none 1 (List.map rowI tb.size)), .own 1 (List.map (rowL 1 rowI) tb.cost), .own 1 (List.map (rowL 1 rowI) v4), .own 2 (List.map row_Tree v1)])) ++ [.cells [.p (iv u.Sym), .p (.sl none 2 (List.map row_Tree u.Kids))], .arr 0 1 (List.map (rowA rowI) s2)]), [], none, false⟩) h (by first | rfl | (simp only [go_sem, hE5, hE7, hE12, hE13, yl, b1, b3, b5, b4, f7, f7s, f6s, f67, fd, hx, hp, g0, gk, s0, sk, t0, tk, tx, lt, lE, lE0]; done) | (simp only [go_sem, hE5, hE7, hE12, hE13, yl, b1, b3, b5, b4, f7, f7s, f6s, f67, fd, hx, hp, g0, gk, s0, sk, t0, tk, tx, lt, lE, lE0]; rfl)) (by first | rfl | (simp only [go_sem, hE5, hE7, hE12, hE13, yl, b1, b3, b5, b4, f7, f7s, f6s, f67, fd, hx, hp, g0, gk, s0, sk, t0, tk, tx, lt, lE, lE0]; done) | (simp only [go_sem, hE5, hE7, hE12, hE13, yl, b1, b3, b5, b4, f7, f7s, f6s, f67, fd, hx, hp, g0, gk, s0, sk, t0, tk, tx, lt, lE, lE0]; rfl)) (fun _ _ => rfl) ?_ ?_ ?_
  ·intro s2 h
   try dsimp only at h ⊢
   obtain ⟨v8, e_v8, h⟩ := ob h
   have e_v8a := (allM_some e_v8).1
   have e_v8b := (allM_some e_v8).2
   try simp only [Nat.zero_add] at e_v8a
   try simp only [List.drop_zero] at e_v8b
   obtain ⟨v9, e_v9, h⟩ := ob h
   have e_v9a : boundOk (tb.cost.length + 1) 24 = true := bnd_of (by have := (app_some e_v9).1; simpa using this) (by decide)
   have e_v9b : (List.map (rowL 1 rowI) tb.cost) ++ [[.sl none 1 (List.map rowI v8)]] = List.map (rowL 1 rowI) v9 := by rw [(app_some e_v9).2]; simp [rowI, rowL]
   simp only [go_sem, e_v8a, e_v8b, e_v9a, e_v9b, hE5, hE7, hE12, hE13, yl, b1, b3, b5, b4, f7, f7s, f6s, f67, fd, hx, hp, g0, gk, s0, sk, t0, tk, tx, lt, lE, lE0]
   injection h with h; subst h
   exact hK _ _
  ·intro K2 s2 hb2 he2
   try dsimp only
   conv => arg 1; arg 7; unfold L81_4 loopAt S22.c81 Try.f81; simp only [loopIn, Option.getD_some, if_true]
   simp only [go_sem, he2, hE5, hE7, hE12, hE13, yl, b1, b3, b5, b4, f7, f7s, f6s, f67, fd, hx, hp, g0, gk, s0, sk, t0, tk, tx, lt, lE, lE0]
   exact hb2
  ·intro K2 k2 i2 x2 s2 n2 hR2 hE2 hb2 hx2 hi2 hw2 ih2 h
   try dsimp only at h ⊢
   conv => arg 1; arg 7; unfold L81_4 loopAt S22.c81 Try.f81; simp only [loopIn, Option.getD_some, if_true]
   obtain ⟨v10, e_v10, h⟩ := ob h
   obtain ⟨e_v10a, e_v10b, e_v10d⟩ := idxM_some e_v10
   obtain ⟨v11, e_v11, h⟩ := ob h
   have e_v11c : call Try.prog T H (.fn 83) [.ptr 4 0, .p (.agg [iv x2.Sym, .sl none 1 (List.map rowI x2.From), iv x2.To]), .p (iv i)] ((yS σ (some ((g + 1), v5, (v2 + 1)), [.p (iv tb.a.States), .p (.sl none 1 (List.map rowI tb.a.Final)), .p (.sl none 3 (List.map row_Rule tb.a.Rules)), .p (iv tb.w.Relabel), .p (iv tb.w.Remove), .p (iv tb.w.Insert), .p (.sl none 1 (List.map rowI tb.size)), .own 1 (List.map (rowL 1 rowI) tb.cost), .own 1 (List.map (rowL 1 rowI) v4), .own 2 (List.map row_Tree v1)])) ++ [.cells [.p (iv u.Sym), .p (.sl none 2 (List.map row_Tree u.Kids))], .arr 0 1 (List.map (rowA rowI) s2), .cells [.p (iv x2.Sym), .p (.sl none 1 (List.map rowI x2.From)), .p (iv x2.To)]]) = some (.ret (.p (iv v11)), ((yS σ (some ((g + 1), v5, (v2 + 1)), [.p (iv tb.a.States), .p (.sl none 1 (List.map rowI tb.a.Final)), .p (.sl none 3 (List.map row_Rule tb.a.Rules)), .p (iv tb.w.Relabel), .p (iv tb.w.Remove), .p (iv tb.w.Insert), .p (.sl none 1 (List.map rowI tb.size)), .own 1 (List.map (rowL 1 rowI) tb.cost), .own 1 (List.map (rowL 1 rowI) v4), .own 2 (List.map row_Tree v1)])) ++ [.cells [.p (iv u.Sym), .p (.sl none 2 (List.map row_Tree u.Kids))], .arr 0 1 (List.map (rowA rowI) s2), .cells [.p (iv x2.Sym), .p (.sl none 1 (List.map rowI x2.From)), .p (iv x2.To)]])) := by have q := spec83_wxx ((yS σ (some ((g + 1), v5, (v2 + 1)), [.p (iv tb.a.States), .p (.sl none 1 (List.map rowI tb.a.Final)), .p (.sl none 3 (List.map row_Rule tb.a.Rules)), .p (iv tb.w.Relabel), .p (iv tb.w.Remove), .p (iv tb.w.Insert), .p (.sl none 1 (List.map rowI tb.size)), .own 1 (List.map (rowL 1 rowI) tb.cost), .own 1 (List.map (rowL 1 rowI) v4), .own 2 (List.map row_Tree v1)])) ++ [.cells [.p (iv u.Sym), .p (.sl none 2 (List.map row_Tree u.Kids))], .arr 0 1 (List.map (rowA rowI) s2), .cells [.p (iv x2.Sym), .p (.sl none 1 (List.map rowI x2.From)), .p (iv x2.To)]]) 4 (by simp only [yl, List.length_append, List.length_set, List.length_cons, List.length_nil]; omega) (repair_table.mk tb.a tb.w tb.size tb.cost v4 v1) x2 i v11 e_v11; first | (simp only [go_sem, hE5, hE7, hE12, hE13, yl, b1, b3, b5, b4, f7, f7s, f6s, f67, fd, hx, hp, g0, gk, s0, sk, t0, tk, tx, lt, lE, lE0] at q ⊢; exact q) | exact q
   obtain ⟨v12, e_v12, h⟩ := ob h
   have e_v12c := spec76 v10 v11 v12 e_v12
   have e_y1 : List.set (List.map (rowA rowI) s2) ((x2.To).toNat) [.p (iv v12)] = List.map (rowA rowI) (List.set s2 ((x2.To).toNat) v12) := map_set' (by first | rfl | simp only [go_sem, List.map_cons, List.map_nil])
   simp only [go_sem, hx2, hi2, hw2, e_v10a, e_v10b, e_v10d, e_v11c, e_v12c, e_y1, hR2, hE2, hE5, hE7, hE12, hE13, yl, b1, b3, b5, b4, f7, f7s, f6s, f67, fd, hx, hp, g0, gk, s0, sk, t0, tk, tx, lt, lE, lE0]
   exact ih2 (List.set s2 ((x2.To).toNat) v12) h
 ·intro K1 i1 s1 hb1 he1
  try dsimp only
  conv => arg 1; arg 7; unfold L81_2 loopAt S22.c81 Try.f81; simp only [loopIn, Option.getD_some, if_true]
  simp only [go_sem, he1, hE5, hE7, hE12, hE13, yl, b1, b3, b5, b4, f7, f7s, f6s, f67, fd, hx, hp, g0, gk, s0, sk, t0, tk, tx, lt, lE, lE0]
  exact hb1
 ·intro K1 k1 i1 s1 n1 hR1 hE1 hb1 hi1 hw1 ih1 h
  try dsimp only at h ⊢
  conv => arg 1; arg 7; unfold L81_2 loopAt S22.c81 Try.f81; simp only [loopIn, Option.getD_some, if_true]
  obtain ⟨v13, e_v13, h⟩ := ob h
  have e_v13c : call Try.prog T H (.fn 98) [.ptr 4 0, .p (iv (i1 : Int))] ((yS σ (some ((g + 1), v5, (v2 + 1)), [.p (iv tb.a.States), .p (.sl none 1 (List.map rowI tb.a.Final)), .p (.sl none 3 (List.map row_Rule tb.a.Rules)), .p (iv tb.w.Relabel), .p (iv tb.w.Remove), .p (iv tb.w.Insert), .p (.sl none 1 (List.map rowI tb.size)), .own 1 (List.map (rowL 1 rowI) tb.cost), .own 1 (List.map (rowL 1 rowI) v4), .own 2 (List.map row_Tree v1)])) ++ [.cells [.p (iv u.Sym), .p (.sl none 2 (List.map row_Tree u.Kids))], .arr 0 1 (List.map (rowA rowI) s1)]) = some (.ret (.p (iv v13)), ((yS σ (some ((g + 1), v5, (v2 + 1)), [.p (iv tb.a.States), .p (.sl none 1 (List.map rowI tb.a.Final)), .p (.sl none 3 (List.map row_Rule tb.a.Rules)), .p (iv tb.w.Relabel), .p (iv tb.w.Remove), .p (iv tb.w.Insert), .p (.sl none 1 (List.map rowI tb.size)), .own 1 (List.map (rowL 1 rowI) tb.cost), .own 1 (List.map (rowL 1 rowI) v4), .own 2 (List.map row_Tree v1)])) ++ [.cells [.p (iv u.Sym), .p (.sl none 2 (List.map row_Tree u.Kids))], .arr 0 1 (List.map (rowA rowI) s1)])) := by have q := spec98_wx ((yS σ (some ((g + 1), v5, (v2 + 1)), [.p (iv tb.a.States), .p (.sl none 1 (List.map rowI tb.a.Final)), .p (.sl none 3 (List.map row_Rule tb.a.Rules)), .p (iv tb.w.Relabel), .p (iv tb.w.Remove), .p (iv tb.w.Insert), .p (.sl none 1 (List.map rowI tb.size)), .own 1 (List.map (rowL 1 rowI) tb.cost), .own 1 (List.map (rowL 1 rowI) v4), .own 2 (List.map row_Tree v1)])) ++ [.cells [.p (iv u.Sym), .p (.sl none 2 (List.map row_Tree u.Kids))], .arr 0 1 (List.map (rowA rowI) s1)]) 4 (by simp only [yl, List.length_append, List.length_set, List.length_cons, List.length_nil]; omega) (repair_table.mk tb.a tb.w tb.size tb.cost v4 v1) (i1 : Int) v13 e_v13; first | (simp only [go_sem, hE5, hE7, hE12, hE13, yl, b1, b3, b5, b4, f7, f7s, f6s, f67, fd, hx, hp, g0, gk, s0, sk, t0, tk, tx, lt, lE, lE0] at q ⊢; exact q) | exact q
  obtain ⟨v14, e_v14, h⟩ := ob h
  have e_v14c : call Try.prog T H (.fn 76) [.p (iv (w64 ((w64 (w.Remove * v7)) + v13))), .p (iv 2199023255552)] [] = some (.ret (.p (iv v14)), []) := spec76 (w64 ((w64 (w.Remove * v7)) + v13)) 2199023255552 v14 e_v14
  obtain ⟨v15, e_v15, h⟩ := ob h
  obtain ⟨e_v15a, e_v15b, e_v15d⟩ := idxM_some e_v15
  simp only [Int.toNat_natCast] at e_v15b
  simp only [Int.toNat_natCast] at e_v15d
  have e_y2 : List.set (List.map (rowA rowI) s1) i1 [.p (iv v14)] = List.map (rowA rowI) (List.set s1 i1 v14) := map_set' (by first | rfl | simp only [go_sem, List.map_cons, List.map_nil])
  simp only [go_sem, hi1, hw1, e_v13c, e_v14c, e_v15b, e_v15d, e_y2, hR1, hE1, hE5, hE7, hE12, hE13, yl, b1, b3, b5, b4, f7, f7s, f6s, f67, fd, hx, hp, g0, gk, s0, sk, t0, tk, tx, lt, lE, lE0]
  exact ih1 (List.set s1 i1 v14) h
end Tab
end Go.AM.S22

