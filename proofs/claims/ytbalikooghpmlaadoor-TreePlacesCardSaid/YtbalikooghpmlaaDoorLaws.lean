/- What the functions of this seat compute on the abstract machine, function by function, and the plain laws. -/
import Derived.Test.YtbalikooghpmlaaDoorTab
import Derived.Test.YtbalikooghpmlaaDoorAmGen
import Derived.KernelRfl
import Derived.Test.YtbalikooghpmlaaDoorAmWt
set_option linter.unusedVariables false
set_option linter.unusedSimpArgs false
namespace Go.AM.S01
open Go Go.Proofs Go.AM
set_option maxRecDepth 100000
set_option linter.unusedVariables false
set_option maxHeartbeats 4000000


structure Tree where
  Sym : Int
  Kids : List Tree
mutual
def row_Tree : Tree → List PV
  | .mk f0 f1 => [iv f0, .sl none 2 (rows_Tree f1)]
def rows_Tree : List Tree → List (List PV)
  | [] => []
  | x :: r => row_Tree x :: rows_Tree r
end
theorem rows_Tree_map : ∀ l : List Tree, rows_Tree l = l.map row_Tree
  | [] => rfl
  | x :: r => by rw [rows_Tree, rows_Tree_map r]; rfl
theorem row_Tree_eq (x : Tree) : row_Tree x = [iv x.Sym, .sl none 2 (List.map row_Tree x.Kids)] := by
  cases x; rw [row_Tree]; simp only [rows_Tree_map]
attribute [go_sem] row_Tree_eq
structure Alphabet where
  Ranks : List Int
def row_Alphabet (x : Alphabet) : List PV := [.sl none 1 (List.map rowI x.Ranks)]
theorem row_Alphabet_eq (x : Alphabet) : row_Alphabet x = [.sl none 1 (List.map rowI x.Ranks)] := rfl
attribute [go_sem] row_Alphabet_eq
structure tree_sized where
  sym : Int
  size : Int
  kids : List tree_sized
mutual
def row_tree_sized : tree_sized → List PV
  | .mk f0 f1 f2 => [iv f0, iv f1, .sl none 3 (rows_tree_sized f2)]
def rows_tree_sized : List tree_sized → List (List PV)
  | [] => []
  | x :: r => row_tree_sized x :: rows_tree_sized r
end
theorem rows_tree_sized_map : ∀ l : List tree_sized, rows_tree_sized l = l.map row_tree_sized
  | [] => rfl
  | x :: r => by rw [rows_tree_sized, rows_tree_sized_map r]; rfl
theorem row_tree_sized_eq (x : tree_sized) : row_tree_sized x = [iv x.sym, iv x.size, .sl none 3 (List.map row_tree_sized x.kids)] := by
  cases x; rw [row_tree_sized]; simp only [rows_tree_sized_map]
attribute [go_sem] row_tree_sized_eq
def ref01_count : Nat → Tree → Int → Option Int
  | 0, _, _ => none
  | n + 1, a0, a1 =>
    rangeL a0.Kids 1 (fun k1 i1 x1 (s1 : Int) n1 =>
      if s1 ≤ a1 then
        (ref01_count n x1 (w64 (a1 - s1))).bind fun v1 =>
        n1 (w64 (s1 + v1))
      else
        n1 s1) fun s1 =>
    some s1
theorem spec71 : ∀ (n : Nat), (∀ (a0 : Tree) (a1 : Int) (r : Int), ref01_count n a0 a1 = some r →
    call Tryd.prog T H (.fn 71) [.p (.agg [iv a0.Sym, .sl none 2 (List.map row_Tree a0.Kids)]), .p (iv a1)] [] = some (.ret (.p (iv r)), [])) := by
  intro n
  induction n with
  | zero => intro a0 a1 r h; cases h
  | succ n ih =>
    intro a0 a1 r h
    refine Sat.fn fun Q hQ => ?_
    rw [ref01_count] at h
    rw [call71]
    conv => arg 1; arg 7; unfold S01.c71 Tryd.f71; simp only [Option.getD_some]
    simp only [go_sem]
    refine run_rangeL (c := L71_0) (live := [1, 5, 9, 10, 11]) (by simp only [go_sem]) (M := fun i1 (s1 : Int) => [(1, .p (iv a1)), (5, .p (iv s1)), (9, .p (.sl none 2 (List.map row_Tree a0.Kids))), (10, .p (iv (a0.Kids.length : Int))), (11, .p (iv (i1 : Int)))]) (Z := fun i1 (s1 : Int) => [.cells [.p (iv a0.Sym), .p (.sl none 2 (List.map row_Tree a0.Kids))]]) (N := fun (s1 : Int) => ⟨[(5, .p (iv s1))], [.cells [.p (iv a0.Sym), .p (.sl none 2 (List.map row_Tree a0.Kids))]], [], none, false⟩) h rfl rfl (fun _ _ => rfl) ?_ ?_ ?_
    · intro s1 h
      try dsimp only at h ⊢
      simp only [go_sem]
      injection h with h; subst h
      exact Sat.ok hQ
    · intro K1 s1 hb1 he1
      try dsimp only
      conv => arg 1; arg 7; unfold L71_0 loopAt S01.c71 Tryd.f71; simp only [loopIn, Option.getD_some, if_true]
      simp only [go_sem, he1]
      exact hb1
    · intro K1 k1 i1 x1 s1 n1 hR1 hE1 hb1 hx1 hi1 hw1 ih1 h
      try dsimp only at h ⊢
      conv => arg 1; arg 7; unfold L71_0 loopAt S01.c71 Tryd.f71; simp only [loopIn, Option.getD_some, if_true]
      by_cases c1 : s1 ≤ a1
      · have h := iteT h c1
        obtain ⟨v1, e_v1, h⟩ := ob h
        have e_v1c : call Tryd.prog T H (.fn 71) [.p (.agg [iv x1.Sym, .sl none 2 (List.map row_Tree x1.Kids)]), .p (iv (w64 (a1 - s1)))] [] = some (.ret (.p (iv v1)), []) := ih x1 (w64 (a1 - s1)) v1 e_v1
        simp only [go_sem, hx1, hi1, hw1, c1, e_v1c, hR1, hE1]
        exact ih1 _ h
      · have h := iteF h c1
        simp only [go_sem, hx1, hi1, hw1, c1, hR1, hE1]
        exact ih1 _ h

def ref01_Few (n : Nat) (a0 : Tree) (a1 : Int) : Option Bool :=
  (ref01_count n a0 a1).bind fun v1 =>
  some (decide (v1 ≤ a1))
theorem spec38 (n : Nat) (a0 : Tree) (a1 : Int) (r : Bool) (h : ref01_Few n a0 a1 = some r) :
    call Tryd.prog T H (.fn 38) [.p (.agg [iv a0.Sym, .sl none 2 (List.map row_Tree a0.Kids)]), .p (iv a1)] [] = some (.ret (.p (bv r)), []) := by
  refine Sat.fn fun Q hQ => ?_
  unfold ref01_Few at h
  rw [call38]
  conv => arg 1; arg 7; unfold S01.c38 Tryd.f38; simp only [Option.getD_some]
  obtain ⟨v1, e_v1, h⟩ := ob h
  have e_v1c : call Tryd.prog T H (.fn 71) [.p (.agg [iv a0.Sym, .sl none 2 (List.map row_Tree a0.Kids)]), .p (iv a1)] [] = some (.ret (.p (iv v1)), []) := spec71 n a0 a1 v1 e_v1
  simp only [go_sem, e_v1c]
  injection h with h; subst h
  exact Sat.ok hQ

def law01_few (n : Nat) (a0 : Alphabet) (a1 : List Tree) : Option Bool :=
  rangeL a1 () (fun k1 i1 x1 (s1 : Unit) n1 =>
    (ref01_Few n x1 2000).bind fun v1 =>
    if v1 = true then
      n1 ()
    else
      some false) fun s1 =>
  some (decide ((a0.Ranks.length : Int) ≤ 40))
theorem spec9 (n : Nat) (a0 : Alphabet) (a1 : List Tree) (r : Bool) (h : law01_few n a0 a1 = some r) :
    call Tryd.prog T H (.fn 9) [.p (.agg [.sl none 1 (List.map rowI a0.Ranks)]), .p (.sl none 2 (List.map row_Tree a1))] [] = some (.ret (.p (bv r)), []) := by
  refine Sat.fn fun Q hQ => ?_
  unfold law01_few at h
  rw [call9]
  conv => arg 1; arg 7; unfold S01.c9 Tryd.f9; simp only [Option.getD_some]
  simp only [go_sem]
  refine run_rangeL (c := L9_0) (live := [2, 7, 8, 9]) (by simp only [go_sem]) (M := fun i1 (s1 : Unit) => [(2, .ptr 0 0), (7, .p (.sl none 2 (List.map row_Tree a1))), (8, .p (iv (a1.length : Int))), (9, .p (iv (i1 : Int)))]) (Z := fun i1 (s1 : Unit) => [.cells [.p (.sl none 1 (List.map rowI a0.Ranks))]]) (N := fun (s1 : Unit) => ⟨[(2, .ptr 0 0)], [.cells [.p (.sl none 1 (List.map rowI a0.Ranks))]], [], none, false⟩) h rfl rfl (fun _ _ => rfl) ?_ ?_ ?_
  · intro s1 h
    try dsimp only at h ⊢
    simp only [go_sem]
    injection h with h; subst h
    exact Sat.ok hQ
  · intro K1 s1 hb1 he1
    try dsimp only
    conv => arg 1; arg 7; unfold L9_0 loopAt S01.c9 Tryd.f9; simp only [loopIn, Option.getD_some, if_true]
    simp only [go_sem, he1]
    exact hb1
  · intro K1 k1 i1 x1 s1 n1 hR1 hE1 hb1 hx1 hi1 hw1 ih1 h
    try dsimp only at h ⊢
    conv => arg 1; arg 7; unfold L9_0 loopAt S01.c9 Tryd.f9; simp only [loopIn, Option.getD_some, if_true]
    obtain ⟨v1, e_v1, h⟩ := ob h
    have e_v1c : call Tryd.prog T H (.fn 38) [.p (.agg [iv x1.Sym, .sl none 2 (List.map row_Tree x1.Kids)]), .p (iv 2000)] [] = some (.ret (.p (bv v1)), []) := spec38 n x1 2000 v1 e_v1
    by_cases c1 : v1 = true
    · have h := iteT h c1
      simp only [go_sem, hx1, hi1, hw1, e_v1c, c1, hR1, hE1]
      exact ih1 _ h
    · have h := iteF h c1
      have c1 := eq_false_of_ne_true c1
      simp only [go_sem, hx1, hi1, hw1, e_v1c, c1, hR1, hE1]
      injection h with h; subst h
      exact Sat.ok hQ

def cmp_Or_int (a0 : List Int) : Option Int :=
  rangeL a0 () (fun k1 i1 x1 (s1 : Unit) n1 =>
    if x1 = 0 then
      n1 ()
    else
      some x1) fun s1 =>
  some 0
theorem spec72 (a0 : List Int) (r : Int) (h : cmp_Or_int a0 = some r) :
    call Tryd.prog T H (.fn 72) [.p (.sl none 1 (List.map rowI a0))] [] = some (.ret (.p (iv r)), []) := by
  refine Sat.fn fun Q hQ => ?_
  unfold cmp_Or_int at h
  rw [call72]
  conv => arg 1; arg 7; unfold S01.c72 Tryd.f72; simp only [Option.getD_some]
  simp only [go_sem]
  refine run_rangeL (c := L72_0) (live := [3, 6, 7, 8]) (by simp only [go_sem]) (M := fun i1 (s1 : Unit) => [(3, .p (iv 0)), (6, .p (.sl none 1 (List.map rowI a0))), (7, .p (iv (a0.length : Int))), (8, .p (iv (i1 : Int)))]) (Z := fun i1 (s1 : Unit) => []) (N := fun (s1 : Unit) => ⟨[(3, .p (iv 0))], [], [], none, false⟩) h rfl rfl (fun _ _ => rfl) ?_ ?_ ?_
  · intro s1 h
    try dsimp only at h ⊢
    simp only [go_sem]
    injection h with h; subst h
    exact Sat.ok hQ
  · intro K1 s1 hb1 he1
    try dsimp only
    conv => arg 1; arg 7; unfold L72_0 loopAt S01.c72 Tryd.f72; simp only [loopIn, Option.getD_some, if_true]
    simp only [go_sem, he1]
    exact hb1
  · intro K1 k1 i1 x1 s1 n1 hR1 hE1 hb1 hx1 hi1 hw1 ih1 h
    try dsimp only at h ⊢
    conv => arg 1; arg 7; unfold L72_0 loopAt S01.c72 Tryd.f72; simp only [loopIn, Option.getD_some, if_true]
    by_cases c1 : x1 = 0
    · have h := iteT h c1
      have c1b : (x1 != 0) = false := bneF c1
      simp only [go_sem, hx1, hi1, hw1, c1b, hR1, hE1]
      exact ih1 _ h
    · have h := iteF h c1
      have c1b : (x1 != 0) = true := bneT c1
      simp only [go_sem, hx1, hi1, hw1, c1b, hR1, hE1]
      injection h with h; subst h
      exact Sat.ok hQ

def cmp_isNaN_int (a0 : Int) : Option Bool :=
  some (a0 != a0)
theorem spec91 (a0 : Int) (r : Bool) (h : cmp_isNaN_int a0 = some r) :
    call Tryd.prog T H (.fn 91) [.p (iv a0)] [] = some (.ret (.p (bv r)), []) := by
  refine Sat.fn fun Q hQ => ?_
  unfold cmp_isNaN_int at h
  rw [call91]
  conv => arg 1; arg 7; unfold S01.c91 Tryd.f91; simp only [Option.getD_some]
  simp only [go_sem]
  injection h with h; subst h
  exact Sat.ok hQ

def cmp_Compare_int (a0 : Int) (a1 : Int) : Option Int :=
  (cmp_isNaN_int a0).bind fun v1 =>
  (cmp_isNaN_int a1).bind fun v2 =>
  if v1 = true then
    if v2 = true then
      some 0
    else
      some (-1)
  else
    if v2 = true then
      some 1
    else
      if a0 < a1 then
        some (-1)
      else
        if a1 < a0 then
          some 1
        else
          some 0
theorem spec73 (a0 : Int) (a1 : Int) (r : Int) (h : cmp_Compare_int a0 a1 = some r) :
    call Tryd.prog T H (.fn 73) [.p (iv a0), .p (iv a1)] [] = some (.ret (.p (iv r)), []) := by
  refine Sat.fn fun Q hQ => ?_
  unfold cmp_Compare_int at h
  rw [call73]
  conv => arg 1; arg 7; unfold S01.c73 Tryd.f73; simp only [Option.getD_some]
  obtain ⟨v1, e_v1, h⟩ := ob h
  have e_v1c : call Tryd.prog T H (.fn 91) [.p (iv a0)] [] = some (.ret (.p (bv v1)), []) := spec91 a0 v1 e_v1
  obtain ⟨v2, e_v2, h⟩ := ob h
  have e_v2c : call Tryd.prog T H (.fn 91) [.p (iv a1)] [] = some (.ret (.p (bv v2)), []) := spec91 a1 v2 e_v2
  by_cases c1 : v1 = true
  · have h := iteT h c1
    by_cases c2 : v2 = true
    · have h := iteT h c2
      simp only [go_sem, e_v1c, e_v2c, c1, c2]
      injection h with h; subst h
      exact Sat.ok hQ
    · have h := iteF h c2
      have c2 := eq_false_of_ne_true c2
      simp only [go_sem, e_v1c, e_v2c, c1, c2]
      injection h with h; subst h
      exact Sat.ok hQ
  · have h := iteF h c1
    have c1 := eq_false_of_ne_true c1
    by_cases c3 : v2 = true
    · have h := iteT h c3
      simp only [go_sem, e_v1c, e_v2c, c1, c3]
      injection h with h; subst h
      exact Sat.ok hQ
    · have h := iteF h c3
      have c3 := eq_false_of_ne_true c3
      by_cases c4 : a0 < a1
      · have h := iteT h c4
        simp only [go_sem, e_v1c, e_v2c, c1, c3, c4]
        injection h with h; subst h
        exact Sat.ok hQ
      · have h := iteF h c4
        by_cases c5 : a1 < a0
        · have h := iteT h c5
          simp only [go_sem, e_v1c, e_v2c, c1, c3, c4, c5]
          injection h with h; subst h
          exact Sat.ok hQ
        · have h := iteF h c5
          simp only [go_sem, e_v1c, e_v2c, c1, c3, c4, c5]
          injection h with h; subst h
          exact Sat.ok hQ

def tree_compare : Nat → tree_sized → tree_sized → Option Int
  | 0, _, _ => none
  | n + 1, a0, a1 =>
    (cmp_Compare_int a0.size a1.size).bind fun v1 =>
    (cmp_Compare_int a0.sym a1.sym).bind fun v2 =>
    (cmp_Or_int [v1, v2]).bind fun v3 =>
    if v3 = 0 then
      jn (fun (u1 : Int) =>
        some u1) fun j1 =>
      rangeL a0.kids () (fun k1 i1 x1 (s1 : Unit) n1 =>
        if (a1.kids.length : Int) ≤ (i1 : Int) then
          j1 1
        else
          (a1.kids[i1]?).bind fun v4 =>
          (tree_compare n x1 v4).bind fun v5 =>
          if v5 = 0 then
            n1 ()
          else
            j1 v5) fun s1 =>
      if (a0.kids.length : Int) < (a1.kids.length : Int) then
        j1 (-1)
      else
        j1 0
    else
      some v3
theorem spec41 : ∀ (n : Nat), (∀ (a0 : tree_sized) (a1 : tree_sized) (r : Int), tree_compare n a0 a1 = some r →
    call Tryd.prog T H (.fn 41) [.p (.agg [iv a0.sym, iv a0.size, .sl none 3 (List.map row_tree_sized a0.kids)]), .p (.agg [iv a1.sym, iv a1.size, .sl none 3 (List.map row_tree_sized a1.kids)])] [] = some (.ret (.p (iv r)), [])) := by
  intro n
  induction n with
  | zero => intro a0 a1 r h; cases h
  | succ n ih =>
    intro a0 a1 r h
    refine Sat.fn fun Q hQ => ?_
    rw [tree_compare] at h
    rw [call41]
    conv => arg 1; arg 7; unfold S01.c41 Tryd.f41; simp only [Option.getD_some]
    obtain ⟨v1, e_v1, h⟩ := ob h
    have e_v1c : call Tryd.prog T H (.fn 73) [.p (iv a0.size), .p (iv a1.size)] [] = some (.ret (.p (iv v1)), []) := spec73 a0.size a1.size v1 e_v1
    obtain ⟨v2, e_v2, h⟩ := ob h
    have e_v2c : call Tryd.prog T H (.fn 73) [.p (iv a0.sym), .p (iv a1.sym)] [] = some (.ret (.p (iv v2)), []) := spec73 a0.sym a1.sym v2 e_v2
    obtain ⟨v3, e_v3, h⟩ := ob h
    have e_v3c : call Tryd.prog T H (.fn 72) [.p (.sl none 1 [[iv v1], [iv v2]])] [] = some (.ret (.p (iv v3)), []) := by have q := spec72 [v1, v2] v3 e_v3; simp only [List.map_cons, List.map_nil, rowI] at q ⊢; exact q
    by_cases c1 : v3 = 0
    · have h := iteT h c1
      have c1b : (v3 != 0) = false := bneF c1
      simp only [go_sem, e_v1c, e_v2c, e_v3c, c1b]
      refine Sat.callj (V := fun (u1 : Int) => .p (iv u1)) (Z := fun (u1 : Int) => [.cells [.p (iv a0.sym), .p (iv a0.size), .p (.sl none 3 (List.map row_tree_sized a0.kids))], .cells [.p (iv a1.sym), .p (iv a1.size), .p (.sl none 3 (List.map row_tree_sized a1.kids))]]) h ?_ ?_
      · intro u1 h
        try dsimp only at h ⊢
        simp only [go_sem]
        injection h with h; subst h
        exact Sat.ok hQ
      · intro j1 h
        rw [call74]
        conv => arg 1; arg 7; unfold S01.c74 Tryd.f74; simp only [Option.getD_some]
        simp only [go_sem]
        refine run_rangeL (c := L74_0) (live := [0, 1, 2, 11, 12, 13]) (by simp only [go_sem]) (M := fun i1 (s1 : Unit) => [(0, .p (.sl none 3 (List.map row_tree_sized a0.kids))), (1, .p (.sl none 3 (List.map row_tree_sized a1.kids))), (2, .p (.fn 41)), (11, .p (.sl none 3 (List.map row_tree_sized a0.kids))), (12, .p (iv (a0.kids.length : Int))), (13, .p (iv (i1 : Int)))]) (Z := fun i1 (s1 : Unit) => [.cells [.p (iv a0.sym), .p (iv a0.size), .p (.sl none 3 (List.map row_tree_sized a0.kids))], .cells [.p (iv a1.sym), .p (iv a1.size), .p (.sl none 3 (List.map row_tree_sized a1.kids))]]) (N := fun (s1 : Unit) => ⟨[(0, .p (.sl none 3 (List.map row_tree_sized a0.kids))), (1, .p (.sl none 3 (List.map row_tree_sized a1.kids)))], [.cells [.p (iv a0.sym), .p (iv a0.size), .p (.sl none 3 (List.map row_tree_sized a0.kids))], .cells [.p (iv a1.sym), .p (iv a1.size), .p (.sl none 3 (List.map row_tree_sized a1.kids))]], [], none, false⟩) h rfl rfl (fun _ _ => rfl) ?_ ?_ ?_
        · intro s1 h
          try dsimp only at h ⊢
          by_cases c2 : (a0.kids.length : Int) < (a1.kids.length : Int)
          · have h := iteT h c2
            simp only [go_sem, c2]
            exact Sat.ok ⟨(-1), rfl, h⟩
          · have h := iteF h c2
            simp only [go_sem, c2]
            exact Sat.ok ⟨0, rfl, h⟩
        · intro K1 s1 hb1 he1
          try dsimp only
          conv => arg 1; arg 7; unfold L74_0 loopAt S01.c74 Tryd.f74; simp only [loopIn, Option.getD_some, if_true]
          simp only [go_sem, he1]
          exact hb1
        · intro K1 k1 i1 x1 s1 n1 hR1 hE1 hb1 hx1 hi1 hw1 ih1 h
          try dsimp only at h ⊢
          conv => arg 1; arg 7; unfold L74_0 loopAt S01.c74 Tryd.f74; simp only [loopIn, Option.getD_some, if_true]
          by_cases c3 : (a1.kids.length : Int) ≤ (i1 : Int)
          · have h := iteT h c3
            simp only [go_sem, hx1, hi1, hw1, c3, hR1, hE1]
            exact Sat.ok ⟨1, rfl, h⟩
          · have h := iteF h c3
            obtain ⟨v4, e_v4, h⟩ := ob h
            obtain ⟨v5, e_v5, h⟩ := ob h
            have e_v5c : call Tryd.prog T H (.fn 41) [.p (.agg [iv x1.sym, iv x1.size, .sl none 3 (List.map row_tree_sized x1.kids)]), .p (.agg [iv v4.sym, iv v4.size, .sl none 3 (List.map row_tree_sized v4.kids)])] [] = some (.ret (.p (iv v5)), []) := ih x1 v4 v5 e_v5
            by_cases c4 : v5 = 0
            · have h := iteT h c4
              have c4b : (v5 != 0) = false := bneF c4
              simp only [go_sem, hx1, hi1, hw1, c3, e_v4, e_v5c, c4b, hR1, hE1]
              exact ih1 _ h
            · have h := iteF h c4
              have c4b : (v5 != 0) = true := bneT c4
              simp only [go_sem, hx1, hi1, hw1, c3, e_v4, e_v5c, c4b, hR1, hE1]
              exact Sat.ok ⟨v5, rfl, h⟩
    · have h := iteF h c1
      have c1b : (v3 != 0) = true := bneT c1
      simp only [go_sem, e_v1c, e_v2c, e_v3c, c1b]
      injection h with h; subst h
      exact Sat.ok hQ

def tree_measure : Nat → Tree → Option tree_sized
  | 0, _ => none
  | n + 1, a0 =>
    rangeL a0.Kids (1, ([] : List tree_sized)) (fun k1 i1 x1 (s1 : Int × (List tree_sized)) n1 =>
      (tree_measure n x1).bind fun v1 =>
      (app 40 s1.2 [v1]).bind fun v2 =>
      n1 (w64 (s1.1 + v1.size), v2)) fun s1 =>
    some (tree_sized.mk a0.Sym s1.1 s1.2)
theorem spec42 : ∀ (n : Nat), (∀ (a0 : Tree) (r : tree_sized), tree_measure n a0 = some r →
    call Tryd.prog T H (.fn 42) [.p (.agg [iv a0.Sym, .sl none 2 (List.map row_Tree a0.Kids)])] [] = some (.ret (.p (.agg [iv r.sym, iv r.size, .sl none 3 (List.map row_tree_sized r.kids)])), [])) := by
  intro n
  induction n with
  | zero => intro a0 r h; cases h
  | succ n ih =>
    intro a0 r h
    refine Sat.fn fun Q hQ => ?_
    rw [tree_measure] at h
    rw [call42]
    conv => arg 1; arg 7; unfold S01.c42 Tryd.f42; simp only [Option.getD_some]
    simp only [go_sem]
    refine run_rangeL (c := L42_0) (live := [2, 3, 11, 12, 13]) (by simp only [go_sem]) (M := fun i1 (s1 : Int × (List tree_sized)) => [(2, .ptr 1 0), (3, .ptr 2 0), (11, .p (.sl none 2 (List.map row_Tree a0.Kids))), (12, .p (iv (a0.Kids.length : Int))), (13, .p (iv (i1 : Int)))]) (Z := fun i1 (s1 : Int × (List tree_sized)) => [.cells [.p (iv a0.Sym), .p (.sl none 2 (List.map row_Tree a0.Kids))], .cells [.p (iv 0), .p (iv 0), .own 3 []], .cells [.p (iv a0.Sym), .p (iv s1.1), .own 3 (List.map row_tree_sized s1.2)]]) (N := fun (s1 : Int × (List tree_sized)) => ⟨[(2, .ptr 1 0), (3, .ptr 2 0)], [.cells [.p (iv a0.Sym), .p (.sl none 2 (List.map row_Tree a0.Kids))], .cells [.p (iv 0), .p (iv 0), .own 3 []], .cells [.p (iv a0.Sym), .p (iv s1.1), .own 3 (List.map row_tree_sized s1.2)]], [], none, false⟩) h rfl rfl (fun _ _ => rfl) ?_ ?_ ?_
    · intro s1 h
      try dsimp only at h ⊢
      simp only [go_sem]
      injection h with h; subst h
      exact Sat.ok hQ
    · intro K1 s1 hb1 he1
      try dsimp only
      conv => arg 1; arg 7; unfold L42_0 loopAt S01.c42 Tryd.f42; simp only [loopIn, Option.getD_some, if_true]
      simp only [go_sem, he1]
      exact hb1
    · intro K1 k1 i1 x1 s1 n1 hR1 hE1 hb1 hx1 hi1 hw1 ih1 h
      try dsimp only at h ⊢
      conv => arg 1; arg 7; unfold L42_0 loopAt S01.c42 Tryd.f42; simp only [loopIn, Option.getD_some, if_true]
      obtain ⟨v1, e_v1, h⟩ := ob h
      have e_v1c : call Tryd.prog T H (.fn 42) [.p (.agg [iv x1.Sym, .sl none 2 (List.map row_Tree x1.Kids)])] [] = some (.ret (.p (.agg [iv v1.sym, iv v1.size, .sl none 3 (List.map row_tree_sized v1.kids)])), []) := ih x1 v1 e_v1
      obtain ⟨v2, e_v2, h⟩ := ob h
      have e_v2a : boundOk (s1.2.length + 1) 40 = true := bnd_of (by have := (app_some e_v2).1; simpa using this) (by decide)
      have e_v2b : (List.map row_tree_sized s1.2) ++ [[iv v1.sym, iv v1.size, .sl none 3 (List.map row_tree_sized v1.kids)]] = List.map row_tree_sized v2 := by rw [(app_some e_v2).2]; simp [row_tree_sized_eq]
      simp only [go_sem, hx1, hi1, hw1, e_v1c, e_v2a, e_v2b, hR1, hE1]
      exact ih1 _ h

def tree_Compare (n : Nat) (a0 : Tree) (a1 : Tree) : Option Int :=
  (tree_measure n a0).bind fun v1 =>
  (tree_measure n a1).bind fun v2 =>
  (tree_compare n v1 v2).bind fun v3 =>
  some v3
theorem spec11 (n : Nat) (a0 : Tree) (a1 : Tree) (r : Int) (h : tree_Compare n a0 a1 = some r) :
    call Tryd.prog T H (.fn 11) [.p (.agg [iv a0.Sym, .sl none 2 (List.map row_Tree a0.Kids)]), .p (.agg [iv a1.Sym, .sl none 2 (List.map row_Tree a1.Kids)])] [] = some (.ret (.p (iv r)), []) := by
  refine Sat.fn fun Q hQ => ?_
  unfold tree_Compare at h
  rw [call11]
  conv => arg 1; arg 7; unfold S01.c11 Tryd.f11; simp only [Option.getD_some]
  obtain ⟨v1, e_v1, h⟩ := ob h
  have e_v1c : call Tryd.prog T H (.fn 42) [.p (.agg [iv a0.Sym, .sl none 2 (List.map row_Tree a0.Kids)])] [] = some (.ret (.p (.agg [iv v1.sym, iv v1.size, .sl none 3 (List.map row_tree_sized v1.kids)])), []) := spec42 n a0 v1 e_v1
  obtain ⟨v2, e_v2, h⟩ := ob h
  have e_v2c : call Tryd.prog T H (.fn 42) [.p (.agg [iv a1.Sym, .sl none 2 (List.map row_Tree a1.Kids)])] [] = some (.ret (.p (.agg [iv v2.sym, iv v2.size, .sl none 3 (List.map row_tree_sized v2.kids)])), []) := spec42 n a1 v2 e_v2
  obtain ⟨v3, e_v3, h⟩ := ob h
  have e_v3c : call Tryd.prog T H (.fn 41) [.p (.agg [iv v1.sym, iv v1.size, .sl none 3 (List.map row_tree_sized v1.kids)]), .p (.agg [iv v2.sym, iv v2.size, .sl none 3 (List.map row_tree_sized v2.kids)])] [] = some (.ret (.p (iv v3)), []) := spec41 n v1 v2 v3 e_v3
  simp only [go_sem, e_v1c, e_v2c, e_v3c]
  injection h with h; subst h
  exact Sat.ok hQ

def tree_ValidAlphabet_1 (a0 : Int) : Option Bool :=
  if a0 < 0 then
    some true
  else
    some (decide (3 < a0))
theorem spec48 (a0 : Int) (r : Bool) (h : tree_ValidAlphabet_1 a0 = some r) :
    call Tryd.prog T H (.fn 48) [.p (iv a0)] [] = some (.ret (.p (bv r)), []) := by
  refine Sat.fn fun Q hQ => ?_
  unfold tree_ValidAlphabet_1 at h
  rw [call48]
  conv => arg 1; arg 7; unfold S01.c48 Tryd.f48; simp only [Option.getD_some]
  by_cases c1 : a0 < 0
  · have h := iteT h c1
    simp only [go_sem, c1]
    injection h with h; subst h
    exact Sat.ok hQ
  · have h := iteF h c1
    simp only [go_sem, c1]
    injection h with h; subst h
    exact Sat.ok hQ

def tree_ValidAlphabet (a0 : Alphabet) : Option Bool :=
  if (a0.Ranks.length : Int) ≤ 12 then
    jn (fun (u1 : Int) =>
      some (!(decide (0 ≤ u1)))) fun j1 =>
    rangeL a0.Ranks () (fun k1 i1 x1 (s1 : Unit) n1 =>
      (tree_ValidAlphabet_1 x1).bind fun v1 =>
      if v1 = true then
        j1 (i1 : Int)
      else
        n1 ()) fun s1 =>
    j1 (-1)
  else
    some false
theorem spec15 (a0 : Alphabet) (r : Bool) (h : tree_ValidAlphabet a0 = some r) :
    call Tryd.prog T H (.fn 15) [.p (.agg [.sl none 1 (List.map rowI a0.Ranks)])] [] = some (.ret (.p (bv r)), []) := by
  refine Sat.fn fun Q hQ => ?_
  unfold tree_ValidAlphabet at h
  rw [call15]
  conv => arg 1; arg 7; unfold S01.c15 Tryd.f15; simp only [Option.getD_some]
  by_cases c1 : (a0.Ranks.length : Int) ≤ 12
  · have h := iteT h c1
    simp only [go_sem, c1]
    refine Sat.callc ?_
    rw [call47]
    conv => arg 1; arg 7; unfold S01.c47 Tryd.f47; simp only [Option.getD_some]
    simp only [go_sem]
    refine Sat.callj (V := fun (u1 : Int) => .p (iv u1)) (Z := fun (u1 : Int) => [.cells [.p (.sl none 1 (List.map rowI a0.Ranks))]]) h ?_ ?_
    · intro u1 h
      try dsimp only at h ⊢
      simp only [go_sem]
      refine Sat.ok ?_
      dsimp only
      simp only [go_sem]
      injection h with h; subst h
      exact Sat.ok hQ
    · intro j1 h
      rw [call79]
      conv => arg 1; arg 7; unfold S01.c79 Tryd.f79; simp only [Option.getD_some]
      simp only [go_sem]
      refine run_rangeL (c := L79_0) (live := [0, 1, 7, 8]) (by simp only [go_sem]) (M := fun i1 (s1 : Unit) => [(0, .p (.sl none 1 (List.map rowI a0.Ranks))), (1, .p (.fn 48)), (7, .p (iv (a0.Ranks.length : Int))), (8, .p (iv (i1 : Int)))]) (Z := fun i1 (s1 : Unit) => [.cells [.p (.sl none 1 (List.map rowI a0.Ranks))]]) (N := fun (s1 : Unit) => ⟨[], [.cells [.p (.sl none 1 (List.map rowI a0.Ranks))]], [], none, false⟩) h rfl rfl (fun _ _ => rfl) ?_ ?_ ?_
      · intro s1 h
        try dsimp only at h ⊢
        simp only [go_sem]
        exact Sat.ok ⟨(-1), rfl, h⟩
      · intro K1 s1 hb1 he1
        try dsimp only
        conv => arg 1; arg 7; unfold L79_0 loopAt S01.c79 Tryd.f79; simp only [loopIn, Option.getD_some, if_true]
        simp only [go_sem, he1]
        exact hb1
      · intro K1 k1 i1 x1 s1 n1 hR1 hE1 hb1 hx1 hi1 hw1 ih1 h
        try dsimp only at h ⊢
        conv => arg 1; arg 7; unfold L79_0 loopAt S01.c79 Tryd.f79; simp only [loopIn, Option.getD_some, if_true]
        obtain ⟨v1, e_v1, h⟩ := ob h
        have e_v1c : call Tryd.prog T H (.fn 48) [.p (iv x1)] [] = some (.ret (.p (bv v1)), []) := spec48 x1 v1 e_v1
        by_cases c2 : v1 = true
        · have h := iteT h c2
          simp only [go_sem, hx1, hi1, hw1, e_v1c, c2, hR1, hE1]
          exact Sat.ok ⟨(i1 : Int), rfl, h⟩
        · have h := iteF h c2
          have c2 := eq_false_of_ne_true c2
          simp only [go_sem, hx1, hi1, hw1, e_v1c, c2, hR1, hE1]
          exact ih1 _ h
  · have h := iteF h c1
    simp only [go_sem, c1]
    injection h with h; subst h
    exact Sat.ok hQ

def tree_listed : Nat → (List Int) → Int → Int → Option Int
  | 0, _, _, _ => none
  | n + 1, a0, a1, a2 =>
    if a1 = 0 then
      if a2 = 0 then
        some 1
      else
        some 0
    else
      whileL n (0, 1) (fun k1 (s1 : Int × Int) n1 =>
        if s1.2 ≤ a2 then
          (idx a0 s1.2).bind fun v1 =>
          if 0 < v1 then
            (tree_listed n a0 (w64 (a1 - 1)) (w64 (a2 - s1.2))).bind fun v2 =>
            n1 (minI (w64 (s1.1 + (w64 (v1 * v2)))) 4097, w64 (s1.2 + 1))
          else
            n1 (s1.1, w64 (s1.2 + 1))
        else
          k1 (s1.1, s1.2)) fun s1 =>
      some s1.1
theorem spec75 : ∀ (n : Nat), (∀ (σ : List AObj) (a0 : List Int) (a1 : Int) (a2 : Int) (r : Int), tree_listed n a0 a1 a2 = some r →
    call Tryd.prog T H (.fn 75) [.p (.sl none 1 (List.map rowI a0)), .p (iv a1), .p (iv a2)] σ = some (.ret (.p (iv r)), σ)) := by
  intro n
  induction n with
  | zero => intro σ a0 a1 a2 r h; cases h
  | succ n ih =>
    intro σ a0 a1 a2 r h
    refine Sat.fn fun Q hQ => ?_
    rw [tree_listed] at h
    rw [call75]
    conv => arg 1; arg 7; unfold S01.c75 Tryd.f75; simp only [Option.getD_some]
    by_cases c1 : a1 = 0
    · have h := iteT h c1
      have c1b : (a1 == 0) = true := beqT c1
      by_cases c2 : a2 = 0
      · have h := iteT h c2
        have c2b : (a2 == 0) = true := beqT c2
        simp only [go_sem, c1b, c2b]
        injection h with h; subst h
        exact Sat.ok hQ
      · have h := iteF h c2
        have c2b : (a2 == 0) = false := beqF c2
        simp only [go_sem, c1b, c2b]
        injection h with h; subst h
        exact Sat.ok hQ
    · have h := iteF h c1
      have c1b : (a1 == 0) = false := beqF c1
      simp only [go_sem, c1b]
      refine run_whileL (c := L75_0) (live := [0, 1, 2, 7, 8]) (by simp only [go_sem]) (M := fun (s1 : Int × Int) => [(0, .p (.sl none 1 (List.map rowI a0))), (1, .p (iv a1)), (2, .p (iv a2)), (7, .p (iv s1.1)), (8, .p (iv s1.2))]) (Z := fun (s1 : Int × Int) => σ) (N := fun (s1 : Int × Int) => ⟨[(7, .p (iv s1.1))], σ, [], none, false⟩) h rfl rfl (fun _ => rfl) ?_ ?_
      · intro s1 h
        try dsimp only at h ⊢
        simp only [go_sem]
        injection h with h; subst h
        exact Sat.ok hQ
      · intro K1 k1 s1 n1 hR1 hE1 hb1 ih1 h
        try dsimp only at h ⊢
        conv => arg 1; arg 7; unfold L75_0 loopAt S01.c75 Tryd.f75; simp only [loopIn, Option.getD_some, if_true]
        by_cases c3 : s1.2 ≤ a2
        · have h := iteT h c3
          obtain ⟨v1, e_v1, h⟩ := ob h
          obtain ⟨e_v1a, e_v1b⟩ := idx_some e_v1
          by_cases c4 : 0 < v1
          · have h := iteT h c4
            obtain ⟨v2, e_v2, h⟩ := ob h
            have e_v2c : call Tryd.prog T H (.fn 75) [.p (.sl none 1 (List.map rowI a0)), .p (iv (w64 (a1 - 1))), .p (iv (w64 (a2 - s1.2)))] σ = some (.ret (.p (iv v2)), σ) := by have q := ih σ a0 (w64 (a1 - 1)) (w64 (a2 - s1.2)) v2 e_v2; first | (simp only [go_sem] at q ⊢; exact q) | exact q
            simp only [go_sem, c3, e_v1a, e_v1b, c4, e_v2c, hR1, hE1]
            exact ih1 _ h
          · have h := iteF h c4
            simp only [go_sem, c3, e_v1a, e_v1b, c4, hR1, hE1]
            exact ih1 _ h
        · have h := iteF h c3
          simp only [go_sem, c3, hR1, hE1]
          exact hb1 _ h

def tree_listed_mxx : Nat → (List Int) → Nat → Int → Int → Option Int
  | 0, _, _, _, _ => none
  | n + 1, a0, l0, a1, a2 =>
    if a1 = 0 then
      if a2 = 0 then
        some 1
      else
        some 0
    else
      whileL n (0, 1) (fun k1 (s1 : Int × Int) n1 =>
        if s1.2 ≤ a2 then
          (idxM l0 a0 s1.2).bind fun v1 =>
          if 0 < v1 then
            (tree_listed_mxx n a0 l0 (w64 (a1 - 1)) (w64 (a2 - s1.2))).bind fun v2 =>
            n1 (minI (w64 (s1.1 + (w64 (v1 * v2)))) 4097, w64 (s1.2 + 1))
          else
            n1 (s1.1, w64 (s1.2 + 1))
        else
          k1 (s1.1, s1.2)) fun s1 =>
      some s1.1
theorem spec75_mxx : ∀ (n : Nat), (∀ (σ : List AObj) (p0 : Nat) (g0 : Nat) (hp0 : p0 < σ.length) (a0 : List Int) (l0 : Nat) (a1 : Int) (a2 : Int) (r : Int), tree_listed_mxx n a0 l0 a1 a2 = some r →
    call Tryd.prog T H (.fn 75) [.ms p0 g0 1 0 l0, .p (iv a1), .p (iv a2)] (List.set σ p0 (.arr g0 1 (List.map (rowA rowI) a0))) = some (.ret (.p (iv r)), (List.set σ p0 (.arr g0 1 (List.map (rowA rowI) a0))))) := by
  intro n
  induction n with
  | zero => intro σ p0 g0 hp0 a0 l0 a1 a2 r h; cases h
  | succ n ih =>
    intro σ p0 g0 hp0 a0 l0 a1 a2 r h
    refine Sat.fn fun Q hQ => ?_
    rw [tree_listed_mxx] at h
    rw [call75]
    conv => arg 1; arg 7; unfold S01.c75 Tryd.f75; simp only [Option.getD_some]
    by_cases c1 : a1 = 0
    · have h := iteT h c1
      have c1b : (a1 == 0) = true := beqT c1
      by_cases c2 : a2 = 0
      · have h := iteT h c2
        have c2b : (a2 == 0) = true := beqT c2
        simp only [go_sem, c1b, c2b, hp0, fun k => Nat.lt_add_right k hp0, Nat.not_le_of_lt hp0, fun k => Nat.not_le_of_lt (Nat.lt_add_right k hp0)]
        injection h with h; subst h
        exact Sat.ok hQ
      · have h := iteF h c2
        have c2b : (a2 == 0) = false := beqF c2
        simp only [go_sem, c1b, c2b, hp0, fun k => Nat.lt_add_right k hp0, Nat.not_le_of_lt hp0, fun k => Nat.not_le_of_lt (Nat.lt_add_right k hp0)]
        injection h with h; subst h
        exact Sat.ok hQ
    · have h := iteF h c1
      have c1b : (a1 == 0) = false := beqF c1
      simp only [go_sem, c1b, hp0, fun k => Nat.lt_add_right k hp0, Nat.not_le_of_lt hp0, fun k => Nat.not_le_of_lt (Nat.lt_add_right k hp0)]
      refine run_whileL (c := L75_0) (live := [0, 1, 2, 7, 8]) (by simp only [go_sem]) (M := fun (s1 : Int × Int) => [(0, .ms p0 g0 1 0 l0), (1, .p (iv a1)), (2, .p (iv a2)), (7, .p (iv s1.1)), (8, .p (iv s1.2))]) (Z := fun (s1 : Int × Int) => (List.set σ p0 (.arr g0 1 (List.map (rowA rowI) a0)))) (N := fun (s1 : Int × Int) => ⟨[(7, .p (iv s1.1))], (List.set σ p0 (.arr g0 1 (List.map (rowA rowI) a0))), [], none, false⟩) h rfl rfl (fun _ => rfl) ?_ ?_
      · intro s1 h
        try dsimp only at h ⊢
        simp only [go_sem, hp0, fun k => Nat.lt_add_right k hp0, Nat.not_le_of_lt hp0, fun k => Nat.not_le_of_lt (Nat.lt_add_right k hp0)]
        injection h with h; subst h
        exact Sat.ok hQ
      · intro K1 k1 s1 n1 hR1 hE1 hb1 ih1 h
        try dsimp only at h ⊢
        conv => arg 1; arg 7; unfold L75_0 loopAt S01.c75 Tryd.f75; simp only [loopIn, Option.getD_some, if_true]
        by_cases c3 : s1.2 ≤ a2
        · have h := iteT h c3
          obtain ⟨v1, e_v1, h⟩ := ob h
          obtain ⟨e_v1a, e_v1b, e_v1d⟩ := idxM_some e_v1
          by_cases c4 : 0 < v1
          · have h := iteT h c4
            obtain ⟨v2, e_v2, h⟩ := ob h
            have e_v2c : call Tryd.prog T H (.fn 75) [.ms p0 g0 1 0 l0, .p (iv (w64 (a1 - 1))), .p (iv (w64 (a2 - s1.2)))] (List.set σ p0 (.arr g0 1 (List.map (rowA rowI) a0))) = some (.ret (.p (iv v2)), (List.set σ p0 (.arr g0 1 (List.map (rowA rowI) a0)))) := by have q := ih (List.set σ p0 (.arr g0 1 (List.map (rowA rowI) a0))) p0 g0 (by simp only [List.length_append, List.length_set, List.length_cons, List.length_nil]; omega) a0 l0 (w64 (a1 - 1)) (w64 (a2 - s1.2)) v2 e_v2; first | (simp only [go_sem, hp0, fun k => Nat.lt_add_right k hp0, Nat.not_le_of_lt hp0, fun k => Nat.not_le_of_lt (Nat.lt_add_right k hp0)] at q ⊢; exact q) | exact q
            simp only [go_sem, c3, e_v1a, e_v1b, e_v1d, c4, e_v2c, hR1, hE1, hp0, fun k => Nat.lt_add_right k hp0, Nat.not_le_of_lt hp0, fun k => Nat.not_le_of_lt (Nat.lt_add_right k hp0)]
            exact ih1 _ h
          · have h := iteF h c4
            simp only [go_sem, c3, e_v1a, e_v1b, e_v1d, c4, hR1, hE1, hp0, fun k => Nat.lt_add_right k hp0, Nat.not_le_of_lt hp0, fun k => Nat.not_le_of_lt (Nat.lt_add_right k hp0)]
            exact ih1 _ h
        · have h := iteF h c3
          simp only [go_sem, c3, hR1, hE1, hp0, fun k => Nat.lt_add_right k hp0, Nat.not_le_of_lt hp0, fun k => Nat.not_le_of_lt (Nat.lt_add_right k hp0)]
          exact hb1 _ h

def tree_many (n : Nat) (a0 : Alphabet) (a1 : Int) : Option Int :=
  (mkz 8 (w64 (a1 + 1)) (w64 (a1 + 1)) 0).bind fun v1 =>
  whileL n (1, v1) (fun k3 (s3 : Int × (List Int)) n3 =>
    if s3.1 ≤ a1 then
      rangeL a0.Ranks s3.2 (fun k4 i4 x4 (s4 : (List Int)) n4 =>
        (idxM ((w64 (a1 + 1)).toNat) s4 s3.1).bind fun v3 =>
        (tree_listed_mxx n s4 ((w64 (a1 + 1)).toNat) x4 (w64 (s3.1 - 1))).bind fun v4 =>
        n4 (List.set s4 ((s3.1).toNat) (minI (w64 (v3 + v4)) 4097))) fun s4 =>
      n3 (w64 (s3.1 + 1), s4)
    else
      k3 (s3.1, s3.2)) fun s3 =>
  (idxM ((w64 (a1 + 1)).toNat) s3.2 a1).bind fun v2 =>
  some v2
theorem spec43 (n : Nat) (a0 : Alphabet) (a1 : Int) (r : Int) (h : tree_many n a0 a1 = some r) :
    call Tryd.prog T H (.fn 43) [.p (.agg [.sl none 1 (List.map rowI a0.Ranks)]), .p (iv a1)] [] = some (.ret (.p (iv r)), []) := by
  refine Sat.fn fun Q hQ => ?_
  unfold tree_many at h
  rw [call43]
  conv => arg 1; arg 7; unfold S01.c43 Tryd.f43; simp only [Option.getD_some]
  obtain ⟨v1, e_v1, h⟩ := ob h
  obtain ⟨e_v11, e_v12, e_v13, e_v14⟩ := mkz_some e_v1
  have e_v1b : boundOk (w64 (a1 + 1)).toNat 8 = true := bnd_of e_v13 (by decide)
  have e_v1r : List.replicate (w64 (a1 + 1)).toNat [AV.p (iv 0)] = List.map (rowA rowI) v1 := by rw [e_v14]; exact rep_map (by first | rfl | simp only [go_sem, List.map_nil])
  simp only [go_sem, e_v11, e_v12, e_v1b, e_v1r]
  refine run_whileL (c := L43_0) (live := [1, 2, 5, 6]) (by simp only [go_sem]) (M := fun (s3 : Int × (List Int)) => [(1, .p (iv a1)), (2, .ptr 0 0), (5, .ms 1 0 1 0 ((w64 (a1 + 1)).toNat)), (6, .p (iv s3.1))]) (Z := fun (s3 : Int × (List Int)) => [.cells [.p (.sl none 1 (List.map rowI a0.Ranks))], .arr 0 1 (List.map (rowA rowI) s3.2)]) (N := fun (s3 : Int × (List Int)) => ⟨[(1, .p (iv a1)), (5, .ms 1 0 1 0 ((w64 (a1 + 1)).toNat))], [.cells [.p (.sl none 1 (List.map rowI a0.Ranks))], .arr 0 1 (List.map (rowA rowI) s3.2)], [], none, false⟩) h rfl rfl (fun _ => rfl) ?_ ?_
  · intro s3 h
    try dsimp only at h ⊢
    obtain ⟨v2, e_v2, h⟩ := ob h
    obtain ⟨e_v2a, e_v2b, e_v2d⟩ := idxM_some e_v2
    simp only [go_sem, e_v2a, e_v2b, e_v2d]
    injection h with h; subst h
    exact Sat.ok hQ
  · intro K3 k3 s3 n3 hR3 hE3 hb3 ih3 h
    try dsimp only at h ⊢
    conv => arg 1; arg 7; unfold L43_0 loopAt S01.c43 Tryd.f43; simp only [loopIn, Option.getD_some, if_true]
    by_cases c1 : s3.1 ≤ a1
    · have h := iteT h c1
      simp only [go_sem, c1, hR3, hE3]
      refine run_rangeL (c := L43_2) (live := [1, 2, 5, 6, 18, 19, 20]) (by simp only [go_sem]) (M := fun i4 (s4 : (List Int)) => [(1, .p (iv a1)), (2, .ptr 0 0), (5, .ms 1 0 1 0 ((w64 (a1 + 1)).toNat)), (6, .p (iv s3.1)), (18, .p (.sl none 1 (List.map rowI a0.Ranks))), (19, .p (iv (a0.Ranks.length : Int))), (20, .p (iv (i4 : Int)))]) (Z := fun i4 (s4 : (List Int)) => [.cells [.p (.sl none 1 (List.map rowI a0.Ranks))], .arr 0 1 (List.map (rowA rowI) s4)]) (N := fun (s4 : (List Int)) => ⟨[(1, .p (iv a1)), (2, .ptr 0 0), (5, .ms 1 0 1 0 ((w64 (a1 + 1)).toNat)), (6, .p (iv s3.1))], [.cells [.p (.sl none 1 (List.map rowI a0.Ranks))], .arr 0 1 (List.map (rowA rowI) s4)], [], none, false⟩) h rfl rfl (fun _ _ => rfl) ?_ ?_ ?_
      · intro s4 h
        try dsimp only at h ⊢
        simp only [go_sem, hR3, hE3]
        exact ih3 _ h
      · intro K4 s4 hb4 he4
        try dsimp only
        conv => arg 1; arg 7; unfold L43_2 loopAt S01.c43 Tryd.f43; simp only [loopIn, Option.getD_some, if_true]
        simp only [go_sem, he4]
        exact hb4
      · intro K4 k4 i4 x4 s4 n4 hR4 hE4 hb4 hx4 hi4 hw4 ih4 h
        try dsimp only at h ⊢
        conv => arg 1; arg 7; unfold L43_2 loopAt S01.c43 Tryd.f43; simp only [loopIn, Option.getD_some, if_true]
        obtain ⟨v3, e_v3, h⟩ := ob h
        obtain ⟨e_v3a, e_v3b, e_v3d⟩ := idxM_some e_v3
        obtain ⟨v4, e_v4, h⟩ := ob h
        have e_v4c : call Tryd.prog T H (.fn 75) [.ms 1 0 1 0 ((w64 (a1 + 1)).toNat), .p (iv x4), .p (iv (w64 (s3.1 - 1)))] [.cells [.p (.sl none 1 (List.map rowI a0.Ranks))], .arr 0 1 (List.map (rowA rowI) s4)] = some (.ret (.p (iv v4)), [.cells [.p (.sl none 1 (List.map rowI a0.Ranks))], .arr 0 1 (List.map (rowA rowI) s4)]) := by have q := spec75_mxx n [.cells [.p (.sl none 1 (List.map rowI a0.Ranks))], .arr 0 1 (List.map (rowA rowI) s4)] 1 0 (by simp only [List.length_append, List.length_set, List.length_cons, List.length_nil]; omega) s4 ((w64 (a1 + 1)).toNat) x4 (w64 (s3.1 - 1)) v4 e_v4; first | (simp only [go_sem] at q ⊢; exact q) | exact q
        have e_y1 : List.set (List.map (rowA rowI) s4) ((s3.1).toNat) [.p (iv (minI (w64 (v3 + v4)) 4097))] = List.map (rowA rowI) (List.set s4 ((s3.1).toNat) (minI (w64 (v3 + v4)) 4097)) := map_set' (by first | rfl | simp only [go_sem, List.map_cons, List.map_nil])
        simp only [go_sem, hx4, hi4, hw4, e_v3a, e_v3b, e_v3d, e_v4c, e_y1, hR3, hE3, hR4, hE4]
        exact ih4 _ h
    · have h := iteF h c1
      simp only [go_sem, c1, hR3, hE3]
      exact hb3 _ h

def tree_Copy : Nat → Tree → Option Tree
  | 0, _ => none
  | n + 1, a0 =>
    rangeL a0.Kids ([] : List Tree) (fun k1 i1 x1 (s1 : (List Tree)) n1 =>
      (tree_Copy n x1).bind fun v1 =>
      (app 32 s1 [v1]).bind fun v2 =>
      n1 v2) fun s1 =>
    some (Tree.mk a0.Sym s1)
theorem spec59 : ∀ (n : Nat), (∀ (a0 : Tree) (r : Tree), tree_Copy n a0 = some r →
    call Tryd.prog T H (.fn 59) [.p (.agg [iv a0.Sym, .sl none 2 (List.map row_Tree a0.Kids)])] [] = some (.ret (.p (.agg [iv r.Sym, .sl none 2 (List.map row_Tree r.Kids)])), [])) := by
  intro n
  induction n with
  | zero => intro a0 r h; cases h
  | succ n ih =>
    intro a0 r h
    refine Sat.fn fun Q hQ => ?_
    rw [tree_Copy] at h
    rw [call59]
    conv => arg 1; arg 7; unfold S01.c59 Tryd.f59; simp only [Option.getD_some]
    simp only [go_sem]
    refine run_rangeL (c := L59_0) (live := [2, 3, 10, 11, 12]) (by simp only [go_sem]) (M := fun i1 (s1 : (List Tree)) => [(2, .ptr 1 0), (3, .ptr 2 0), (10, .p (.sl none 2 (List.map row_Tree a0.Kids))), (11, .p (iv (a0.Kids.length : Int))), (12, .p (iv (i1 : Int)))]) (Z := fun i1 (s1 : (List Tree)) => [.cells [.p (iv a0.Sym), .p (.sl none 2 (List.map row_Tree a0.Kids))], .cells [.p (iv 0), .own 2 []], .cells [.p (iv a0.Sym), .own 2 (List.map row_Tree s1)]]) (N := fun (s1 : (List Tree)) => ⟨[(2, .ptr 1 0), (3, .ptr 2 0)], [.cells [.p (iv a0.Sym), .p (.sl none 2 (List.map row_Tree a0.Kids))], .cells [.p (iv 0), .own 2 []], .cells [.p (iv a0.Sym), .own 2 (List.map row_Tree s1)]], [], none, false⟩) h rfl rfl (fun _ _ => rfl) ?_ ?_ ?_
    · intro s1 h
      try dsimp only at h ⊢
      simp only [go_sem]
      injection h with h; subst h
      exact Sat.ok hQ
    · intro K1 s1 hb1 he1
      try dsimp only
      conv => arg 1; arg 7; unfold L59_0 loopAt S01.c59 Tryd.f59; simp only [loopIn, Option.getD_some, if_true]
      simp only [go_sem, he1]
      exact hb1
    · intro K1 k1 i1 x1 s1 n1 hR1 hE1 hb1 hx1 hi1 hw1 ih1 h
      try dsimp only at h ⊢
      conv => arg 1; arg 7; unfold L59_0 loopAt S01.c59 Tryd.f59; simp only [loopIn, Option.getD_some, if_true]
      obtain ⟨v1, e_v1, h⟩ := ob h
      have e_v1c : call Tryd.prog T H (.fn 59) [.p (.agg [iv x1.Sym, .sl none 2 (List.map row_Tree x1.Kids)])] [] = some (.ret (.p (.agg [iv v1.Sym, .sl none 2 (List.map row_Tree v1.Kids)])), []) := ih x1 v1 e_v1
      obtain ⟨v2, e_v2, h⟩ := ob h
      have e_v2a : boundOk (s1.length + 1) 32 = true := bnd_of (by have := (app_some e_v2).1; simpa using this) (by decide)
      have e_v2b : (List.map row_Tree s1) ++ [[iv v1.Sym, .sl none 2 (List.map row_Tree v1.Kids)]] = List.map row_Tree v2 := by rw [(app_some e_v2).2]; simp [row_Tree_eq]
      simp only [go_sem, hx1, hi1, hw1, e_v1c, e_v2a, e_v2b, hR1, hE1]
      exact ih1 _ h

mutual
def tree_sizes : Nat → Alphabet → Int → Option (List Tree)
  | 0, _, _ => none
  | n + 1, a0, a1 =>
    rangeL a0.Ranks ([] : List Tree) (fun k9 i9 x9 (s9 : (List Tree)) n9 =>
      (tree_lists n a0 x9 (w64 (a1 - 1))).bind fun v1 =>
      rangeL v1 s9 (fun k12 i12 x12 (s12 : (List Tree)) n12 =>
        rangeL x12 ([] : List Tree) (fun k13 i13 x13 (s13 : (List Tree)) n13 =>
          (tree_Copy n x13).bind fun v3 =>
          (app 32 s13 [v3]).bind fun v4 =>
          n13 v4) fun s13 =>
        (app 32 s12 [(Tree.mk (i9 : Int) s13)]).bind fun v2 =>
        n12 v2) fun s12 =>
      n9 s12) fun s9 =>
    some s9
def tree_lists : Nat → Alphabet → Int → Int → Option (List (List Tree))
  | 0, _, _, _ => none
  | n + 1, a0, a1, a2 =>
    if a1 = 0 then
      if a2 = 0 then
        some [([] : List Tree)]
      else
        some ([] : List (List Tree))
    else
      whileL n (1, ([] : List (List Tree))) (fun k9 (s9 : Int × (List (List Tree))) n9 =>
        if s9.1 ≤ (w64 ((w64 (a2 - a1)) + 1)) then
          (tree_lists n a0 (w64 (a1 - 1)) (w64 (a2 - s9.1))).bind fun v1 =>
          if (v1.length : Int) = 0 then
            n9 (w64 (s9.1 + 1), s9.2)
          else
            (tree_sizes n a0 s9.1).bind fun v2 =>
            rangeL v2 s9.2 (fun k12 i12 x12 (s12 : (List (List Tree))) n12 =>
              rangeL v1 s12 (fun k13 i13 x13 (s13 : (List (List Tree))) n13 =>
                (app 32 [x12] x13).bind fun v3 =>
                (app 24 s13 [v3]).bind fun v4 =>
                n13 v4) fun s13 =>
              n12 s13) fun s12 =>
            n9 (w64 (s9.1 + 1), s12)
        else
          k9 (s9.1, s9.2)) fun s9 =>
      some s9.2
end
theorem specs44 : ∀ (n : Nat), (∀ (a0 : Alphabet) (a1 : Int) (r : List Tree), tree_sizes n a0 a1 = some r →
    call Tryd.prog T H (.fn 44) [.p (.agg [.sl none 1 (List.map rowI a0.Ranks)]), .p (iv a1)] [] = some (.ret (.p (.sl none 2 (List.map row_Tree r))), [])) ∧ (∀ (a0 : Alphabet) (a1 : Int) (a2 : Int) (r : List (List Tree)), tree_lists n a0 a1 a2 = some r →
    call Tryd.prog T H (.fn 76) [.p (.agg [.sl none 1 (List.map rowI a0.Ranks)]), .p (iv a1), .p (iv a2)] [] = some (.ret (.p (.sl none 1 (List.map (rowL 2 row_Tree) r))), [])) := by
  intro n
  induction n with
  | zero => refine ⟨?_, ?_⟩ <;> (intros; rename_i h; cases h)
  | succ n ih =>
    obtain ⟨ih44, ih76⟩ := ih
    refine ⟨?_, ?_⟩
    · intro a0 a1 r h
      refine Sat.fn fun Q hQ => ?_
      rw [tree_sizes] at h
      rw [call44]
      conv => arg 1; arg 7; unfold S01.c44 Tryd.f44; simp only [Option.getD_some]
      simp only [go_sem]
      refine run_rangeL (c := L44_0) (live := [1, 2, 5, 14, 15, 16]) (by simp only [go_sem]) (M := fun i9 (s9 : (List Tree)) => [(1, .p (iv a1)), (2, .ptr 0 0), (5, .own 2 (List.map row_Tree s9)), (14, .p (.sl none 1 (List.map rowI a0.Ranks))), (15, .p (iv (a0.Ranks.length : Int))), (16, .p (iv (i9 : Int)))]) (Z := fun i9 (s9 : (List Tree)) => [.cells [.p (.sl none 1 (List.map rowI a0.Ranks))]]) (N := fun (s9 : (List Tree)) => ⟨[(5, .own 2 (List.map row_Tree s9))], [.cells [.p (.sl none 1 (List.map rowI a0.Ranks))]], [], none, false⟩) h rfl rfl (fun _ _ => rfl) ?_ ?_ ?_
      · intro s9 h
        try dsimp only at h ⊢
        simp only [go_sem]
        injection h with h; subst h
        exact Sat.ok hQ
      · intro K9 s9 hb9 he9
        try dsimp only
        conv => arg 1; arg 7; unfold L44_0 loopAt S01.c44 Tryd.f44; simp only [loopIn, Option.getD_some, if_true]
        simp only [go_sem, he9]
        exact hb9
      · intro K9 k9 i9 x9 s9 n9 hR9 hE9 hb9 hx9 hi9 hw9 ih9 h
        try dsimp only at h ⊢
        conv => arg 1; arg 7; unfold L44_0 loopAt S01.c44 Tryd.f44; simp only [loopIn, Option.getD_some, if_true]
        obtain ⟨v1, e_v1, h⟩ := ob h
        have e_v1c : call Tryd.prog T H (.fn 76) [.p (.agg [.sl none 1 (List.map rowI a0.Ranks)]), .p (iv x9), .p (iv (w64 (a1 - 1)))] [] = some (.ret (.p (.sl none 1 (List.map (rowL 2 row_Tree) v1))), []) := ih76 a0 x9 (w64 (a1 - 1)) v1 e_v1
        simp only [go_sem, hx9, hi9, hw9, e_v1c, hR9, hE9]
        refine run_rangeL (c := L44_2) (live := [1, 2, 5, 6, 14, 15, 16, 25, 26, 27]) (by simp only [go_sem]) (M := fun i12 (s12 : (List Tree)) => [(1, .p (iv a1)), (2, .ptr 0 0), (5, .own 2 (List.map row_Tree s12)), (6, .p (iv (i9 : Int))), (14, .p (.sl none 1 (List.map rowI a0.Ranks))), (15, .p (iv (a0.Ranks.length : Int))), (16, .p (iv (i9 : Int))), (25, .p (.sl none 1 (List.map (rowL 2 row_Tree) v1))), (26, .p (iv (v1.length : Int))), (27, .p (iv (i12 : Int)))]) (Z := fun i12 (s12 : (List Tree)) => [.cells [.p (.sl none 1 (List.map rowI a0.Ranks))]]) (N := fun (s12 : (List Tree)) => ⟨[(1, .p (iv a1)), (2, .ptr 0 0), (5, .own 2 (List.map row_Tree s12)), (14, .p (.sl none 1 (List.map rowI a0.Ranks))), (15, .p (iv (a0.Ranks.length : Int))), (16, .p (iv (i9 : Int)))], [.cells [.p (.sl none 1 (List.map rowI a0.Ranks))]], [], none, false⟩) h rfl rfl (fun _ _ => rfl) ?_ ?_ ?_
        · intro s12 h
          try dsimp only at h ⊢
          simp only [go_sem, hw9, hR9, hE9]
          exact ih9 _ h
        · intro K12 s12 hb12 he12
          try dsimp only
          conv => arg 1; arg 7; unfold L44_2 loopAt S01.c44 Tryd.f44; simp only [loopIn, Option.getD_some, if_true]
          simp only [go_sem, he12]
          exact hb12
        · intro K12 k12 i12 x12 s12 n12 hR12 hE12 hb12 hx12 hi12 hw12 ih12 h
          try dsimp only at h ⊢
          conv => arg 1; arg 7; unfold L44_2 loopAt S01.c44 Tryd.f44; simp only [loopIn, Option.getD_some, if_true]
          simp only [go_sem, hx12, hi12, hw12, hw9, hR9, hE9, hR12, hE12]
          refine run_rangeL (c := L44_4) (live := [1, 2, 5, 6, 10, 14, 15, 16, 25, 26, 27, 33, 34, 35]) (by simp only [go_sem]) (M := fun i13 (s13 : (List Tree)) => [(1, .p (iv a1)), (2, .ptr 0 0), (5, .own 2 (List.map row_Tree s12)), (6, .p (iv (i9 : Int))), (10, .ptr 1 0), (14, .p (.sl none 1 (List.map rowI a0.Ranks))), (15, .p (iv (a0.Ranks.length : Int))), (16, .p (iv (i9 : Int))), (25, .p (.sl none 1 (List.map (rowL 2 row_Tree) v1))), (26, .p (iv (v1.length : Int))), (27, .p (iv (i12 : Int))), (33, .p (.sl none 2 (List.map row_Tree x12))), (34, .p (iv (x12.length : Int))), (35, .p (iv (i13 : Int)))]) (Z := fun i13 (s13 : (List Tree)) => [.cells [.p (.sl none 1 (List.map rowI a0.Ranks))], .cells [.p (iv (i9 : Int)), .own 2 (List.map row_Tree s13)]]) (N := fun (s13 : (List Tree)) => ⟨[(1, .p (iv a1)), (2, .ptr 0 0), (5, .own 2 (List.map row_Tree s12)), (6, .p (iv (i9 : Int))), (10, .ptr 1 0), (14, .p (.sl none 1 (List.map rowI a0.Ranks))), (15, .p (iv (a0.Ranks.length : Int))), (16, .p (iv (i9 : Int))), (25, .p (.sl none 1 (List.map (rowL 2 row_Tree) v1))), (26, .p (iv (v1.length : Int))), (27, .p (iv (i12 : Int)))], [.cells [.p (.sl none 1 (List.map rowI a0.Ranks))], .cells [.p (iv (i9 : Int)), .own 2 (List.map row_Tree s13)]], [], none, false⟩) h rfl rfl (fun _ _ => rfl) ?_ ?_ ?_
          · intro s13 h
            try dsimp only at h ⊢
            obtain ⟨v2, e_v2, h⟩ := ob h
            have e_v2a : boundOk (s12.length + 1) 32 = true := bnd_of (by have := (app_some e_v2).1; simpa using this) (by decide)
            have e_v2b : (List.map row_Tree s12) ++ [[iv (i9 : Int), .sl none 2 (List.map row_Tree s13)]] = List.map row_Tree v2 := by rw [(app_some e_v2).2]; simp [row_Tree_eq]
            simp only [go_sem, e_v2a, e_v2b, hw9, hR9, hE9, hw12, hR12, hE12]
            exact ih12 _ h
          · intro K13 s13 hb13 he13
            try dsimp only
            conv => arg 1; arg 7; unfold L44_4 loopAt S01.c44 Tryd.f44; simp only [loopIn, Option.getD_some, if_true]
            simp only [go_sem, he13]
            exact hb13
          · intro K13 k13 i13 x13 s13 n13 hR13 hE13 hb13 hx13 hi13 hw13 ih13 h
            try dsimp only at h ⊢
            conv => arg 1; arg 7; unfold L44_4 loopAt S01.c44 Tryd.f44; simp only [loopIn, Option.getD_some, if_true]
            obtain ⟨v3, e_v3, h⟩ := ob h
            have e_v3c : call Tryd.prog T H (.fn 59) [.p (.agg [iv x13.Sym, .sl none 2 (List.map row_Tree x13.Kids)])] [] = some (.ret (.p (.agg [iv v3.Sym, .sl none 2 (List.map row_Tree v3.Kids)])), []) := spec59 n x13 v3 e_v3
            obtain ⟨v4, e_v4, h⟩ := ob h
            have e_v4a : boundOk (s13.length + 1) 32 = true := bnd_of (by have := (app_some e_v4).1; simpa using this) (by decide)
            have e_v4b : (List.map row_Tree s13) ++ [[iv v3.Sym, .sl none 2 (List.map row_Tree v3.Kids)]] = List.map row_Tree v4 := by rw [(app_some e_v4).2]; simp [row_Tree_eq]
            simp only [go_sem, hx13, hi13, hw13, e_v3c, e_v4a, e_v4b, hw9, hR9, hE9, hw12, hR12, hE12, hR13, hE13]
            exact ih13 _ h
    · intro a0 a1 a2 r h
      refine Sat.fn fun Q hQ => ?_
      rw [tree_lists] at h
      rw [call76]
      conv => arg 1; arg 7; unfold S01.c76 Tryd.f76; simp only [Option.getD_some]
      by_cases c1 : a1 = 0
      · have h := iteT h c1
        have c1b : (a1 == 0) = true := beqT c1
        by_cases c2 : a2 = 0
        · have h := iteT h c2
          have c2b : (a2 == 0) = true := beqT c2
          simp only [go_sem, c1b, c2b]
          injection h with h; subst h
          simp only [List.map_cons, List.map_nil, rowL, row_Tree_eq] at hQ
          exact Sat.ok hQ
        · have h := iteF h c2
          have c2b : (a2 == 0) = false := beqF c2
          simp only [go_sem, c1b, c2b]
          injection h with h; subst h
          exact Sat.ok hQ
      · have h := iteF h c1
        have c1b : (a1 == 0) = false := beqF c1
        simp only [go_sem, c1b]
        refine run_whileL (c := L76_0) (live := [1, 2, 3, 7, 8]) (by simp only [go_sem]) (M := fun (s9 : Int × (List (List Tree))) => [(1, .p (iv a1)), (2, .p (iv a2)), (3, .ptr 0 0), (7, .own 1 (List.map (rowL 2 row_Tree) s9.2)), (8, .p (iv s9.1))]) (Z := fun (s9 : Int × (List (List Tree))) => [.cells [.p (.sl none 1 (List.map rowI a0.Ranks))]]) (N := fun (s9 : Int × (List (List Tree))) => ⟨[(7, .own 1 (List.map (rowL 2 row_Tree) s9.2))], [.cells [.p (.sl none 1 (List.map rowI a0.Ranks))]], [], none, false⟩) h rfl rfl (fun _ => rfl) ?_ ?_
        · intro s9 h
          try dsimp only at h ⊢
          simp only [go_sem]
          injection h with h; subst h
          exact Sat.ok hQ
        · intro K9 k9 s9 n9 hR9 hE9 hb9 ih9 h
          try dsimp only at h ⊢
          conv => arg 1; arg 7; unfold L76_0 loopAt S01.c76 Tryd.f76; simp only [loopIn, Option.getD_some, if_true]
          by_cases c3 : s9.1 ≤ (w64 ((w64 (a2 - a1)) + 1))
          · have h := iteT h c3
            obtain ⟨v1, e_v1, h⟩ := ob h
            have e_v1c : call Tryd.prog T H (.fn 76) [.p (.agg [.sl none 1 (List.map rowI a0.Ranks)]), .p (iv (w64 (a1 - 1))), .p (iv (w64 (a2 - s9.1)))] [] = some (.ret (.p (.sl none 1 (List.map (rowL 2 row_Tree) v1))), []) := ih76 a0 (w64 (a1 - 1)) (w64 (a2 - s9.1)) v1 e_v1
            by_cases c4 : (v1.length : Int) = 0
            · have h := iteT h c4
              have c4b : ((v1.length : Int) == 0) = true := beqT c4
              simp only [go_sem, c3, e_v1c, c4b, hR9, hE9]
              exact ih9 _ h
            · have h := iteF h c4
              have c4b : ((v1.length : Int) == 0) = false := beqF c4
              obtain ⟨v2, e_v2, h⟩ := ob h
              have e_v2c : call Tryd.prog T H (.fn 44) [.p (.agg [.sl none 1 (List.map rowI a0.Ranks)]), .p (iv s9.1)] [] = some (.ret (.p (.sl none 2 (List.map row_Tree v2))), []) := ih44 a0 s9.1 v2 e_v2
              simp only [go_sem, c3, e_v1c, c4b, e_v2c, hR9, hE9]
              refine run_rangeL (c := L76_2) (live := [1, 2, 3, 7, 8, 9, 39, 40, 41]) (by simp only [go_sem]) (M := fun i12 (s12 : (List (List Tree))) => [(1, .p (iv a1)), (2, .p (iv a2)), (3, .ptr 0 0), (7, .own 1 (List.map (rowL 2 row_Tree) s12)), (8, .p (iv s9.1)), (9, .p (.sl none 1 (List.map (rowL 2 row_Tree) v1))), (39, .p (.sl none 2 (List.map row_Tree v2))), (40, .p (iv (v2.length : Int))), (41, .p (iv (i12 : Int)))]) (Z := fun i12 (s12 : (List (List Tree))) => [.cells [.p (.sl none 1 (List.map rowI a0.Ranks))]]) (N := fun (s12 : (List (List Tree))) => ⟨[(1, .p (iv a1)), (2, .p (iv a2)), (3, .ptr 0 0), (7, .own 1 (List.map (rowL 2 row_Tree) s12)), (8, .p (iv s9.1))], [.cells [.p (.sl none 1 (List.map rowI a0.Ranks))]], [], none, false⟩) h rfl rfl (fun _ _ => rfl) ?_ ?_ ?_
              · intro s12 h
                try dsimp only at h ⊢
                simp only [go_sem, hR9, hE9]
                exact ih9 _ h
              · intro K12 s12 hb12 he12
                try dsimp only
                conv => arg 1; arg 7; unfold L76_2 loopAt S01.c76 Tryd.f76; simp only [loopIn, Option.getD_some, if_true]
                simp only [go_sem, he12]
                exact hb12
              · intro K12 k12 i12 x12 s12 n12 hR12 hE12 hb12 hx12 hi12 hw12 ih12 h
                try dsimp only at h ⊢
                conv => arg 1; arg 7; unfold L76_2 loopAt S01.c76 Tryd.f76; simp only [loopIn, Option.getD_some, if_true]
                simp only [go_sem, hx12, hi12, hw12, hR9, hE9, hR12, hE12]
                refine run_rangeL (c := L76_4) (live := [1, 2, 3, 7, 8, 9, 11, 39, 40, 41, 45, 46, 47]) (by simp only [go_sem]) (M := fun i13 (s13 : (List (List Tree))) => [(1, .p (iv a1)), (2, .p (iv a2)), (3, .ptr 0 0), (7, .own 1 (List.map (rowL 2 row_Tree) s13)), (8, .p (iv s9.1)), (9, .p (.sl none 1 (List.map (rowL 2 row_Tree) v1))), (11, .ptr 1 0), (39, .p (.sl none 2 (List.map row_Tree v2))), (40, .p (iv (v2.length : Int))), (41, .p (iv (i12 : Int))), (45, .p (.sl none 1 (List.map (rowL 2 row_Tree) v1))), (46, .p (iv (v1.length : Int))), (47, .p (iv (i13 : Int)))]) (Z := fun i13 (s13 : (List (List Tree))) => [.cells [.p (.sl none 1 (List.map rowI a0.Ranks))], .cells [.p (iv x12.Sym), .p (.sl none 2 (List.map row_Tree x12.Kids))]]) (N := fun (s13 : (List (List Tree))) => ⟨[(1, .p (iv a1)), (2, .p (iv a2)), (3, .ptr 0 0), (7, .own 1 (List.map (rowL 2 row_Tree) s13)), (8, .p (iv s9.1)), (9, .p (.sl none 1 (List.map (rowL 2 row_Tree) v1))), (39, .p (.sl none 2 (List.map row_Tree v2))), (40, .p (iv (v2.length : Int))), (41, .p (iv (i12 : Int)))], [.cells [.p (.sl none 1 (List.map rowI a0.Ranks))], .cells [.p (iv x12.Sym), .p (.sl none 2 (List.map row_Tree x12.Kids))]], [], none, false⟩) h rfl rfl (fun _ _ => rfl) ?_ ?_ ?_
                · intro s13 h
                  try dsimp only at h ⊢
                  simp only [go_sem, hR9, hE9, hw12, hR12, hE12]
                  exact ih12 _ h
                · intro K13 s13 hb13 he13
                  try dsimp only
                  conv => arg 1; arg 7; unfold L76_4 loopAt S01.c76 Tryd.f76; simp only [loopIn, Option.getD_some, if_true]
                  simp only [go_sem, he13]
                  exact hb13
                · intro K13 k13 i13 x13 s13 n13 hR13 hE13 hb13 hx13 hi13 hw13 ih13 h
                  try dsimp only at h ⊢
                  conv => arg 1; arg 7; unfold L76_4 loopAt S01.c76 Tryd.f76; simp only [loopIn, Option.getD_some, if_true]
                  obtain ⟨v3, e_v3, h⟩ := ob h
                  have e_v3a : boundOk (1 + x13.length) 32 = true := bnd_of (by have := (app_some e_v3).1; simpa using this) (by decide)
                  have e_v3b : [[iv x12.Sym, .sl none 2 (List.map row_Tree x12.Kids)]] ++ (List.map row_Tree x13) = List.map row_Tree v3 := by rw [(app_some e_v3).2]; simp [row_Tree_eq]
                  obtain ⟨v4, e_v4, h⟩ := ob h
                  have e_v4a : boundOk (s13.length + 1) 24 = true := bnd_of (by have := (app_some e_v4).1; simpa using this) (by decide)
                  have e_v4b : (List.map (rowL 2 row_Tree) s13) ++ [[.sl none 2 (List.map row_Tree v3)]] = List.map (rowL 2 row_Tree) v4 := by rw [(app_some e_v4).2]; simp [rowL, row_Tree_eq]
                  simp only [go_sem, hx13, hi13, hw13, e_v3a, e_v3b, e_v4a, e_v4b, hR9, hE9, hw12, hR12, hE12, hR13, hE13]
                  exact ih13 _ h
          · have h := iteF h c3
            simp only [go_sem, c3, hR9, hE9]
            exact hb9 _ h
theorem spec44 (n : Nat) : (∀ (a0 : Alphabet) (a1 : Int) (r : List Tree), tree_sizes n a0 a1 = some r →
    call Tryd.prog T H (.fn 44) [.p (.agg [.sl none 1 (List.map rowI a0.Ranks)]), .p (iv a1)] [] = some (.ret (.p (.sl none 2 (List.map row_Tree r))), [])) := (specs44 n).1
theorem spec76 (n : Nat) : (∀ (a0 : Alphabet) (a1 : Int) (a2 : Int) (r : List (List Tree)), tree_lists n a0 a1 a2 = some r →
    call Tryd.prog T H (.fn 76) [.p (.agg [.sl none 1 (List.map rowI a0.Ranks)]), .p (iv a1), .p (iv a2)] [] = some (.ret (.p (.sl none 1 (List.map (rowL 2 row_Tree) r))), [])) := (specs44 n).2

def tree_All (n : Nat) (a0 : Alphabet) (a1 : Int) : Option ((List Tree) × Int) :=
  (tree_ValidAlphabet a0).bind fun v1 =>
  if v1 = true then
    if a1 < 1 then
      some (([] : List Tree), 6)
    else
      if 12 < a1 then
        some (([] : List Tree), 6)
      else
        (tree_many n a0 a1).bind fun v2 =>
        if 4096 < v2 then
          some (([] : List Tree), 3)
        else
          (tree_sizes n a0 a1).bind fun v3 =>
          some (v3, 0)
  else
    some (([] : List Tree), 1)
theorem spec12 (n : Nat) (a0 : Alphabet) (a1 : Int) (r : (List Tree) × Int) (h : tree_All n a0 a1 = some r) :
    call Tryd.prog T H (.fn 12) [.p (.agg [.sl none 1 (List.map rowI a0.Ranks)]), .p (iv a1)] [] = some (.ret (.p (.tup [.sl none 2 (List.map row_Tree r.1), iv r.2])), []) := by
  refine Sat.fn fun Q hQ => ?_
  unfold tree_All at h
  rw [call12]
  conv => arg 1; arg 7; unfold S01.c12 Tryd.f12; simp only [Option.getD_some]
  obtain ⟨v1, e_v1, h⟩ := ob h
  have e_v1c : call Tryd.prog T H (.fn 15) [.p (.agg [.sl none 1 (List.map rowI a0.Ranks)])] [] = some (.ret (.p (bv v1)), []) := spec15 a0 v1 e_v1
  by_cases c1 : v1 = true
  · have h := iteT h c1
    by_cases c2 : a1 < 1
    · have h := iteT h c2
      simp only [go_sem, e_v1c, c1, c2]
      injection h with h; subst h
      exact Sat.ok hQ
    · have h := iteF h c2
      by_cases c3 : 12 < a1
      · have h := iteT h c3
        simp only [go_sem, e_v1c, c1, c2, c3]
        injection h with h; subst h
        exact Sat.ok hQ
      · have h := iteF h c3
        obtain ⟨v2, e_v2, h⟩ := ob h
        have e_v2c : call Tryd.prog T H (.fn 43) [.p (.agg [.sl none 1 (List.map rowI a0.Ranks)]), .p (iv a1)] [] = some (.ret (.p (iv v2)), []) := spec43 n a0 a1 v2 e_v2
        by_cases c4 : 4096 < v2
        · have h := iteT h c4
          simp only [go_sem, e_v1c, c1, c2, c3, e_v2c, c4]
          injection h with h; subst h
          exact Sat.ok hQ
        · have h := iteF h c4
          obtain ⟨v3, e_v3, h⟩ := ob h
          have e_v3c : call Tryd.prog T H (.fn 44) [.p (.agg [.sl none 1 (List.map rowI a0.Ranks)]), .p (iv a1)] [] = some (.ret (.p (.sl none 2 (List.map row_Tree v3))), []) := spec44 n a0 a1 v3 e_v3
          simp only [go_sem, e_v1c, c1, c2, c3, e_v2c, c4, e_v3c]
          injection h with h; subst h
          exact Sat.ok hQ
  · have h := iteF h c1
    have c1 := eq_false_of_ne_true c1
    simp only [go_sem, e_v1c, c1]
    injection h with h; subst h
    exact Sat.ok hQ

def ref01_Same : Nat → Tree → Tree → Option Bool
  | 0, _, _ => none
  | n + 1, a0, a1 =>
    if a0.Sym = a1.Sym then
      if (a0.Kids.length : Int) = (a1.Kids.length : Int) then
        rangeL a0.Kids () (fun k1 i1 x1 (s1 : Unit) n1 =>
          (a1.Kids[i1]?).bind fun v1 =>
          (ref01_Same n x1 v1).bind fun v2 =>
          if v2 = true then
            n1 ()
          else
            some false) fun s1 =>
        some true
      else
        some false
    else
      some false
theorem spec24 : ∀ (n : Nat), (∀ (a0 : Tree) (a1 : Tree) (r : Bool), ref01_Same n a0 a1 = some r →
    call Tryd.prog T H (.fn 24) [.p (.agg [iv a0.Sym, .sl none 2 (List.map row_Tree a0.Kids)]), .p (.agg [iv a1.Sym, .sl none 2 (List.map row_Tree a1.Kids)])] [] = some (.ret (.p (bv r)), [])) := by
  intro n
  induction n with
  | zero => intro a0 a1 r h; cases h
  | succ n ih =>
    intro a0 a1 r h
    refine Sat.fn fun Q hQ => ?_
    rw [ref01_Same] at h
    rw [call24]
    conv => arg 1; arg 7; unfold S01.c24 Tryd.f24; simp only [Option.getD_some]
    by_cases c1 : a0.Sym = a1.Sym
    · have h := iteT h c1
      have c1b : (a0.Sym != a1.Sym) = false := bneF c1
      by_cases c2 : (a0.Kids.length : Int) = (a1.Kids.length : Int)
      · have h := iteT h c2
        have c2b : ((a0.Kids.length : Int) != (a1.Kids.length : Int)) = false := bneF c2
        simp only [go_sem, c1b, c2b]
        refine run_rangeL (c := L24_0) (live := [2, 3, 22, 23]) (by simp only [go_sem]) (M := fun i1 (s1 : Unit) => [(2, .ptr 0 0), (3, .ptr 1 0), (22, .p (iv (a0.Kids.length : Int))), (23, .p (iv (i1 : Int)))]) (Z := fun i1 (s1 : Unit) => [.cells [.p (iv a0.Sym), .p (.sl none 2 (List.map row_Tree a0.Kids))], .cells [.p (iv a1.Sym), .p (.sl none 2 (List.map row_Tree a1.Kids))]]) (N := fun (s1 : Unit) => ⟨[], [.cells [.p (iv a0.Sym), .p (.sl none 2 (List.map row_Tree a0.Kids))], .cells [.p (iv a1.Sym), .p (.sl none 2 (List.map row_Tree a1.Kids))]], [], none, false⟩) h rfl rfl (fun _ _ => rfl) ?_ ?_ ?_
        · intro s1 h
          try dsimp only at h ⊢
          simp only [go_sem]
          injection h with h; subst h
          exact Sat.ok hQ
        · intro K1 s1 hb1 he1
          try dsimp only
          conv => arg 1; arg 7; unfold L24_0 loopAt S01.c24 Tryd.f24; simp only [loopIn, Option.getD_some, if_true]
          simp only [go_sem, he1]
          exact hb1
        · intro K1 k1 i1 x1 s1 n1 hR1 hE1 hb1 hx1 hi1 hw1 ih1 h
          try dsimp only at h ⊢
          conv => arg 1; arg 7; unfold L24_0 loopAt S01.c24 Tryd.f24; simp only [loopIn, Option.getD_some, if_true]
          obtain ⟨v1, e_v1, h⟩ := ob h
          obtain ⟨v2, e_v2, h⟩ := ob h
          have e_v2c : call Tryd.prog T H (.fn 24) [.p (.agg [iv x1.Sym, .sl none 2 (List.map row_Tree x1.Kids)]), .p (.agg [iv v1.Sym, .sl none 2 (List.map row_Tree v1.Kids)])] [] = some (.ret (.p (bv v2)), []) := ih x1 v1 v2 e_v2
          by_cases c3 : v2 = true
          · have h := iteT h c3
            simp only [go_sem, hx1, hi1, hw1, e_v1, e_v2c, c3, hR1, hE1]
            exact ih1 _ h
          · have h := iteF h c3
            have c3 := eq_false_of_ne_true c3
            simp only [go_sem, hx1, hi1, hw1, e_v1, e_v2c, c3, hR1, hE1]
            injection h with h; subst h
            exact Sat.ok hQ
      · have h := iteF h c2
        have c2b : ((a0.Kids.length : Int) != (a1.Kids.length : Int)) = true := bneT c2
        simp only [go_sem, c1b, c2b]
        injection h with h; subst h
        exact Sat.ok hQ
    · have h := iteF h c1
      have c1b : (a0.Sym != a1.Sym) = true := bneT c1
      simp only [go_sem, c1b]
      injection h with h; subst h
      exact Sat.ok hQ

def ref01_SameTrees (n : Nat) (a0 : List Tree) (a1 : List Tree) : Option Bool :=
  if (a0.length : Int) = (a1.length : Int) then
    rangeL a0 () (fun k1 i1 x1 (s1 : Unit) n1 =>
      (a1[i1]?).bind fun v1 =>
      (ref01_Same n x1 v1).bind fun v2 =>
      if v2 = true then
        n1 ()
      else
        some false) fun s1 =>
    some true
  else
    some false
theorem spec14 (n : Nat) (a0 : List Tree) (a1 : List Tree) (r : Bool) (h : ref01_SameTrees n a0 a1 = some r) :
    call Tryd.prog T H (.fn 14) [.p (.sl none 2 (List.map row_Tree a0)), .p (.sl none 2 (List.map row_Tree a1))] [] = some (.ret (.p (bv r)), []) := by
  refine Sat.fn fun Q hQ => ?_
  unfold ref01_SameTrees at h
  rw [call14]
  conv => arg 1; arg 7; unfold S01.c14 Tryd.f14; simp only [Option.getD_some]
  by_cases c1 : (a0.length : Int) = (a1.length : Int)
  · have h := iteT h c1
    have c1b : ((a0.length : Int) != (a1.length : Int)) = false := bneF c1
    simp only [go_sem, c1b]
    refine run_rangeL (c := L14_0) (live := [0, 1, 12, 13]) (by simp only [go_sem]) (M := fun i1 (s1 : Unit) => [(0, .p (.sl none 2 (List.map row_Tree a0))), (1, .p (.sl none 2 (List.map row_Tree a1))), (12, .p (iv (a0.length : Int))), (13, .p (iv (i1 : Int)))]) (Z := fun i1 (s1 : Unit) => []) (N := fun (s1 : Unit) => ⟨[], [], [], none, false⟩) h rfl rfl (fun _ _ => rfl) ?_ ?_ ?_
    · intro s1 h
      try dsimp only at h ⊢
      simp only [go_sem]
      injection h with h; subst h
      exact Sat.ok hQ
    · intro K1 s1 hb1 he1
      try dsimp only
      conv => arg 1; arg 7; unfold L14_0 loopAt S01.c14 Tryd.f14; simp only [loopIn, Option.getD_some, if_true]
      simp only [go_sem, he1]
      exact hb1
    · intro K1 k1 i1 x1 s1 n1 hR1 hE1 hb1 hx1 hi1 hw1 ih1 h
      try dsimp only at h ⊢
      conv => arg 1; arg 7; unfold L14_0 loopAt S01.c14 Tryd.f14; simp only [loopIn, Option.getD_some, if_true]
      obtain ⟨v1, e_v1, h⟩ := ob h
      obtain ⟨v2, e_v2, h⟩ := ob h
      have e_v2c : call Tryd.prog T H (.fn 24) [.p (.agg [iv x1.Sym, .sl none 2 (List.map row_Tree x1.Kids)]), .p (.agg [iv v1.Sym, .sl none 2 (List.map row_Tree v1.Kids)])] [] = some (.ret (.p (bv v2)), []) := spec24 n x1 v1 v2 e_v2
      by_cases c2 : v2 = true
      · have h := iteT h c2
        simp only [go_sem, hx1, hi1, hw1, e_v1, e_v2c, c2, hR1, hE1]
        exact ih1 _ h
      · have h := iteF h c2
        have c2 := eq_false_of_ne_true c2
        simp only [go_sem, hx1, hi1, hw1, e_v1, e_v2c, c2, hR1, hE1]
        injection h with h; subst h
        exact Sat.ok hQ
  · have h := iteF h c1
    have c1b : ((a0.length : Int) != (a1.length : Int)) = true := bneT c1
    simp only [go_sem, c1b]
    injection h with h; subst h
    exact Sat.ok hQ

def tree_formed : Nat → Alphabet → Tree → Int → Option (Bool × Int)
  | 0, _, _, _ => none
  | n + 1, a0, a1, a2 =>
    if (w64 (a2 - 1)) < 0 then
      some (false, w64 (a2 - 1))
    else
      if a1.Sym < 0 then
        some (false, w64 (a2 - 1))
      else
        if (a0.Ranks.length : Int) ≤ a1.Sym then
          some (false, w64 (a2 - 1))
        else
          (idx a0.Ranks a1.Sym).bind fun v1 =>
          if (a1.Kids.length : Int) = v1 then
            rangeL a1.Kids (w64 (a2 - 1)) (fun k1 i1 x1 (s1 : Int) n1 =>
              (tree_formed n a0 x1 s1).bind fun v2 =>
              if v2.1 = true then
                n1 v2.2
              else
                some (false, v2.2)) fun s1 =>
            some (true, s1)
          else
            some (false, w64 (a2 - 1))
theorem spec49 : ∀ (n : Nat), (∀ (σ : List AObj) (p2 : Nat) (hp2 : p2 < σ.length) (a0 : Alphabet) (a1 : Tree) (a2 : Int) (r : Bool × Int), tree_formed n a0 a1 a2 = some r →
    call Tryd.prog T H (.fn 49) [.p (.agg [.sl none 1 (List.map rowI a0.Ranks)]), .p (.agg [iv a1.Sym, .sl none 2 (List.map row_Tree a1.Kids)]), .ptr p2 0] (List.set σ p2 (.cells [.p (iv a2)])) = some (.ret (.p (bv r.1)), (List.set σ p2 (.cells [.p (iv r.2)])))) := by
  intro n
  induction n with
  | zero => intro σ p2 hp2 a0 a1 a2 r h; cases h
  | succ n ih =>
    intro σ p2 hp2 a0 a1 a2 r h
    refine Sat.fn fun Q hQ => ?_
    rw [tree_formed] at h
    rw [call49]
    conv => arg 1; arg 7; unfold S01.c49 Tryd.f49; simp only [Option.getD_some]
    by_cases c1 : (w64 (a2 - 1)) < 0
    · have h := iteT h c1
      simp only [go_sem, c1, hp2, fun k => Nat.lt_add_right k hp2, Nat.not_le_of_lt hp2, fun k => Nat.not_le_of_lt (Nat.lt_add_right k hp2)]
      injection h with h; subst h
      exact Sat.ok hQ
    · have h := iteF h c1
      by_cases c2 : a1.Sym < 0
      · have h := iteT h c2
        simp only [go_sem, c1, c2, hp2, fun k => Nat.lt_add_right k hp2, Nat.not_le_of_lt hp2, fun k => Nat.not_le_of_lt (Nat.lt_add_right k hp2)]
        injection h with h; subst h
        exact Sat.ok hQ
      · have h := iteF h c2
        by_cases c3 : (a0.Ranks.length : Int) ≤ a1.Sym
        · have h := iteT h c3
          simp only [go_sem, c1, c2, c3, hp2, fun k => Nat.lt_add_right k hp2, Nat.not_le_of_lt hp2, fun k => Nat.not_le_of_lt (Nat.lt_add_right k hp2)]
          injection h with h; subst h
          exact Sat.ok hQ
        · have h := iteF h c3
          obtain ⟨v1, e_v1, h⟩ := ob h
          obtain ⟨e_v1a, e_v1b⟩ := idx_some e_v1
          by_cases c4 : (a1.Kids.length : Int) = v1
          · have h := iteT h c4
            have c4b : ((a1.Kids.length : Int) != v1) = false := bneF c4
            simp only [go_sem, c1, c2, c3, e_v1a, e_v1b, c4b, hp2, fun k => Nat.lt_add_right k hp2, Nat.not_le_of_lt hp2, fun k => Nat.not_le_of_lt (Nat.lt_add_right k hp2)]
            refine run_rangeL (c := L49_0) (live := [2, 3, 44, 45, 46]) (by simp only [go_sem]) (M := fun i1 (s1 : Int) => [(2, .ptr p2 0), (3, .ptr σ.length 0), (44, .p (.sl none 2 (List.map row_Tree a1.Kids))), (45, .p (iv (a1.Kids.length : Int))), (46, .p (iv (i1 : Int)))]) (Z := fun i1 (s1 : Int) => ((List.set σ p2 (.cells [.p (iv s1)])) ++ [.cells [.p (.sl none 1 (List.map rowI a0.Ranks))], .cells [.p (iv a1.Sym), .p (.sl none 2 (List.map row_Tree a1.Kids))]])) (N := fun (s1 : Int) => ⟨[], ((List.set σ p2 (.cells [.p (iv s1)])) ++ [.cells [.p (.sl none 1 (List.map rowI a0.Ranks))], .cells [.p (iv a1.Sym), .p (.sl none 2 (List.map row_Tree a1.Kids))]]), [], none, false⟩) h rfl rfl (fun _ _ => rfl) ?_ ?_ ?_
            · intro s1 h
              try dsimp only at h ⊢
              simp only [go_sem, hp2, fun k => Nat.lt_add_right k hp2, Nat.not_le_of_lt hp2, fun k => Nat.not_le_of_lt (Nat.lt_add_right k hp2)]
              injection h with h; subst h
              exact Sat.ok hQ
            · intro K1 s1 hb1 he1
              try dsimp only
              conv => arg 1; arg 7; unfold L49_0 loopAt S01.c49 Tryd.f49; simp only [loopIn, Option.getD_some, if_true]
              simp only [go_sem, he1]
              exact hb1
            · intro K1 k1 i1 x1 s1 n1 hR1 hE1 hb1 hx1 hi1 hw1 ih1 h
              try dsimp only at h ⊢
              conv => arg 1; arg 7; unfold L49_0 loopAt S01.c49 Tryd.f49; simp only [loopIn, Option.getD_some, if_true]
              obtain ⟨v2, e_v2, h⟩ := ob h
              have e_v2c : call Tryd.prog T H (.fn 49) [.p (.agg [.sl none 1 (List.map rowI a0.Ranks)]), .p (.agg [iv x1.Sym, .sl none 2 (List.map row_Tree x1.Kids)]), .ptr p2 0] ((List.set σ p2 (.cells [.p (iv s1)])) ++ [.cells [.p (.sl none 1 (List.map rowI a0.Ranks))], .cells [.p (iv a1.Sym), .p (.sl none 2 (List.map row_Tree a1.Kids))], .cells [.p (iv x1.Sym), .p (.sl none 2 (List.map row_Tree x1.Kids))]]) = some (.ret (.p (bv v2.1)), ((List.set σ p2 (.cells [.p (iv v2.2)])) ++ [.cells [.p (.sl none 1 (List.map rowI a0.Ranks))], .cells [.p (iv a1.Sym), .p (.sl none 2 (List.map row_Tree a1.Kids))], .cells [.p (iv x1.Sym), .p (.sl none 2 (List.map row_Tree x1.Kids))]])) := by have q := ih ((List.set σ p2 (.cells [.p (iv s1)])) ++ [.cells [.p (.sl none 1 (List.map rowI a0.Ranks))], .cells [.p (iv a1.Sym), .p (.sl none 2 (List.map row_Tree a1.Kids))], .cells [.p (iv x1.Sym), .p (.sl none 2 (List.map row_Tree x1.Kids))]]) p2 (by simp only [List.length_append, List.length_set, List.length_cons, List.length_nil]; omega) a0 x1 s1 v2 e_v2; first | (simp only [go_sem, hp2, fun k => Nat.lt_add_right k hp2, Nat.not_le_of_lt hp2, fun k => Nat.not_le_of_lt (Nat.lt_add_right k hp2)] at q ⊢; exact q) | exact q
              by_cases c5 : v2.1 = true
              · have h := iteT h c5
                simp only [go_sem, hx1, hi1, hw1, e_v2c, c5, hR1, hE1, hp2, fun k => Nat.lt_add_right k hp2, Nat.not_le_of_lt hp2, fun k => Nat.not_le_of_lt (Nat.lt_add_right k hp2)]
                exact ih1 _ h
              · have h := iteF h c5
                have c5 := eq_false_of_ne_true c5
                simp only [go_sem, hx1, hi1, hw1, e_v2c, c5, hR1, hE1, hp2, fun k => Nat.lt_add_right k hp2, Nat.not_le_of_lt hp2, fun k => Nat.not_le_of_lt (Nat.lt_add_right k hp2)]
                injection h with h; subst h
                exact Sat.ok hQ
          · have h := iteF h c4
            have c4b : ((a1.Kids.length : Int) != v1) = true := bneT c4
            simp only [go_sem, c1, c2, c3, e_v1a, e_v1b, c4b, hp2, fun k => Nat.lt_add_right k hp2, Nat.not_le_of_lt hp2, fun k => Nat.not_le_of_lt (Nat.lt_add_right k hp2)]
            injection h with h; subst h
            exact Sat.ok hQ

def tree_Valid (n : Nat) (a0 : Alphabet) (a1 : Tree) : Option Bool :=
  (tree_ValidAlphabet a0).bind fun v1 =>
  if v1 = true then
    (tree_formed n a0 a1 300).bind fun v2 =>
    some v2.1
  else
    some false
theorem spec17 (n : Nat) (a0 : Alphabet) (a1 : Tree) (r : Bool) (h : tree_Valid n a0 a1 = some r) :
    call Tryd.prog T H (.fn 17) [.p (.agg [.sl none 1 (List.map rowI a0.Ranks)]), .p (.agg [iv a1.Sym, .sl none 2 (List.map row_Tree a1.Kids)])] [] = some (.ret (.p (bv r)), []) := by
  refine Sat.fn fun Q hQ => ?_
  unfold tree_Valid at h
  rw [call17]
  conv => arg 1; arg 7; unfold S01.c17 Tryd.f17; simp only [Option.getD_some]
  obtain ⟨v1, e_v1, h⟩ := ob h
  have e_v1c : call Tryd.prog T H (.fn 15) [.p (.agg [.sl none 1 (List.map rowI a0.Ranks)])] [] = some (.ret (.p (bv v1)), []) := spec15 a0 v1 e_v1
  by_cases c1 : v1 = true
  · have h := iteT h c1
    obtain ⟨v2, e_v2, h⟩ := ob h
    have e_v2c : call Tryd.prog T H (.fn 49) [.p (.agg [.sl none 1 (List.map rowI a0.Ranks)]), .p (.agg [iv a1.Sym, .sl none 2 (List.map row_Tree a1.Kids)]), .ptr 2 0] [.cells [.p (.sl none 1 (List.map rowI a0.Ranks))], .cells [.p (iv a1.Sym), .p (.sl none 2 (List.map row_Tree a1.Kids))], .cells [.p (iv 300)]] = some (.ret (.p (bv v2.1)), [.cells [.p (.sl none 1 (List.map rowI a0.Ranks))], .cells [.p (iv a1.Sym), .p (.sl none 2 (List.map row_Tree a1.Kids))], .cells [.p (iv v2.2)]]) := by have q := spec49 n [.cells [.p (.sl none 1 (List.map rowI a0.Ranks))], .cells [.p (iv a1.Sym), .p (.sl none 2 (List.map row_Tree a1.Kids))], .cells [.p (iv 300)]] 2 (by simp only [List.length_append, List.length_set, List.length_cons, List.length_nil]; omega) a0 a1 300 v2 e_v2; first | (simp only [go_sem] at q ⊢; exact q) | exact q
    simp only [go_sem, e_v1c, c1, e_v2c]
    injection h with h; subst h
    exact Sat.ok hQ
  · have h := iteF h c1
    have c1 := eq_false_of_ne_true c1
    simp only [go_sem, e_v1c, c1]
    injection h with h; subst h
    exact Sat.ok hQ

def ref01_List (a0 : List Int) (a1 : List Int) : Option Bool :=
  if (a0.length : Int) = (a1.length : Int) then
    rangeL a0 () (fun k1 i1 x1 (s1 : Unit) n1 =>
      (a1[i1]?).bind fun v1 =>
      if x1 = v1 then
        n1 ()
      else
        some false) fun s1 =>
    some true
  else
    some false
theorem spec63 (a0 : List Int) (a1 : List Int) (r : Bool) (h : ref01_List a0 a1 = some r) :
    call Tryd.prog T H (.fn 63) [.p (.sl none 1 (List.map rowI a0)), .p (.sl none 1 (List.map rowI a1))] [] = some (.ret (.p (bv r)), []) := by
  refine Sat.fn fun Q hQ => ?_
  unfold ref01_List at h
  rw [call63]
  conv => arg 1; arg 7; unfold S01.c63 Tryd.f63; simp only [Option.getD_some]
  by_cases c1 : (a0.length : Int) = (a1.length : Int)
  · have h := iteT h c1
    have c1b : ((a0.length : Int) != (a1.length : Int)) = false := bneF c1
    simp only [go_sem, c1b]
    refine run_rangeL (c := L63_0) (live := [0, 1, 12, 13]) (by simp only [go_sem]) (M := fun i1 (s1 : Unit) => [(0, .p (.sl none 1 (List.map rowI a0))), (1, .p (.sl none 1 (List.map rowI a1))), (12, .p (iv (a0.length : Int))), (13, .p (iv (i1 : Int)))]) (Z := fun i1 (s1 : Unit) => []) (N := fun (s1 : Unit) => ⟨[], [], [], none, false⟩) h rfl rfl (fun _ _ => rfl) ?_ ?_ ?_
    · intro s1 h
      try dsimp only at h ⊢
      simp only [go_sem]
      injection h with h; subst h
      exact Sat.ok hQ
    · intro K1 s1 hb1 he1
      try dsimp only
      conv => arg 1; arg 7; unfold L63_0 loopAt S01.c63 Tryd.f63; simp only [loopIn, Option.getD_some, if_true]
      simp only [go_sem, he1]
      exact hb1
    · intro K1 k1 i1 x1 s1 n1 hR1 hE1 hb1 hx1 hi1 hw1 ih1 h
      try dsimp only at h ⊢
      conv => arg 1; arg 7; unfold L63_0 loopAt S01.c63 Tryd.f63; simp only [loopIn, Option.getD_some, if_true]
      obtain ⟨v1, e_v1, h⟩ := ob h
      by_cases c2 : x1 = v1
      · have h := iteT h c2
        have c2b : (x1 != v1) = false := bneF c2
        simp only [go_sem, hx1, hi1, hw1, e_v1, c2b, hR1, hE1]
        exact ih1 _ h
      · have h := iteF h c2
        have c2b : (x1 != v1) = true := bneT c2
        simp only [go_sem, hx1, hi1, hw1, e_v1, c2b, hR1, hE1]
        injection h with h; subst h
        exact Sat.ok hQ
  · have h := iteF h c1
    have c1b : ((a0.length : Int) != (a1.length : Int)) = true := bneT c1
    simp only [go_sem, c1b]
    injection h with h; subst h
    exact Sat.ok hQ

def ref01_SameLists (a0 : List (List Int)) (a1 : List (List Int)) : Option Bool :=
  if (a0.length : Int) = (a1.length : Int) then
    rangeL a0 () (fun k1 i1 x1 (s1 : Unit) n1 =>
      (a1[i1]?).bind fun v1 =>
      (ref01_List x1 v1).bind fun v2 =>
      if v2 = true then
        n1 ()
      else
        some false) fun s1 =>
    some true
  else
    some false
theorem spec33 (a0 : List (List Int)) (a1 : List (List Int)) (r : Bool) (h : ref01_SameLists a0 a1 = some r) :
    call Tryd.prog T H (.fn 33) [.p (.sl none 1 (List.map (rowL 1 rowI) a0)), .p (.sl none 1 (List.map (rowL 1 rowI) a1))] [] = some (.ret (.p (bv r)), []) := by
  refine Sat.fn fun Q hQ => ?_
  unfold ref01_SameLists at h
  rw [call33]
  conv => arg 1; arg 7; unfold S01.c33 Tryd.f33; simp only [Option.getD_some]
  by_cases c1 : (a0.length : Int) = (a1.length : Int)
  · have h := iteT h c1
    have c1b : ((a0.length : Int) != (a1.length : Int)) = false := bneF c1
    simp only [go_sem, c1b]
    refine run_rangeL (c := L33_0) (live := [0, 1, 12, 13]) (by simp only [go_sem]) (M := fun i1 (s1 : Unit) => [(0, .p (.sl none 1 (List.map (rowL 1 rowI) a0))), (1, .p (.sl none 1 (List.map (rowL 1 rowI) a1))), (12, .p (iv (a0.length : Int))), (13, .p (iv (i1 : Int)))]) (Z := fun i1 (s1 : Unit) => []) (N := fun (s1 : Unit) => ⟨[], [], [], none, false⟩) h rfl rfl (fun _ _ => rfl) ?_ ?_ ?_
    · intro s1 h
      try dsimp only at h ⊢
      simp only [go_sem]
      injection h with h; subst h
      exact Sat.ok hQ
    · intro K1 s1 hb1 he1
      try dsimp only
      conv => arg 1; arg 7; unfold L33_0 loopAt S01.c33 Tryd.f33; simp only [loopIn, Option.getD_some, if_true]
      simp only [go_sem, he1]
      exact hb1
    · intro K1 k1 i1 x1 s1 n1 hR1 hE1 hb1 hx1 hi1 hw1 ih1 h
      try dsimp only at h ⊢
      conv => arg 1; arg 7; unfold L33_0 loopAt S01.c33 Tryd.f33; simp only [loopIn, Option.getD_some, if_true]
      obtain ⟨v1, e_v1, h⟩ := ob h
      obtain ⟨v2, e_v2, h⟩ := ob h
      have e_v2c : call Tryd.prog T H (.fn 63) [.p (.sl none 1 (List.map rowI x1)), .p (.sl none 1 (List.map rowI v1))] [] = some (.ret (.p (bv v2)), []) := spec63 x1 v1 v2 e_v2
      by_cases c2 : v2 = true
      · have h := iteT h c2
        simp only [go_sem, hx1, hi1, hw1, e_v1, e_v2c, c2, hR1, hE1]
        exact ih1 _ h
      · have h := iteF h c2
        have c2 := eq_false_of_ne_true c2
        simp only [go_sem, hx1, hi1, hw1, e_v1, e_v2c, c2, hR1, hE1]
        injection h with h; subst h
        exact Sat.ok hQ
  · have h := iteF h c1
    have c1b : ((a0.length : Int) != (a1.length : Int)) = true := bneT c1
    simp only [go_sem, c1b]
    injection h with h; subst h
    exact Sat.ok hQ

def law01_f (a0 : Tree) (a1 : Tree) : Option Tree :=
  some (Tree.mk 1 [a0, a1])
theorem spec39 (a0 : Tree) (a1 : Tree) (r : Tree) (h : law01_f a0 a1 = some r) :
    call Tryd.prog T H (.fn 39) [.p (.agg [iv a0.Sym, .sl none 2 (List.map row_Tree a0.Kids)]), .p (.agg [iv a1.Sym, .sl none 2 (List.map row_Tree a1.Kids)])] [] = some (.ret (.p (.agg [iv r.Sym, .sl none 2 (List.map row_Tree r.Kids)])), []) := by
  refine Sat.fn fun Q hQ => ?_
  unfold law01_f at h
  rw [call39]
  conv => arg 1; arg 7; unfold S01.c39 Tryd.f39; simp only [Option.getD_some]
  simp only [go_sem]
  injection h with h; subst h
  simp only [List.map_cons, List.map_nil, row_Tree_eq] at hQ
  exact Sat.ok hQ

def law01_leaf  : Option Tree :=
  some (Tree.mk 0 ([] : List Tree))
theorem spec40  (r : Tree) (h : law01_leaf = some r) :
    call Tryd.prog T H (.fn 40) [] [] = some (.ret (.p (.agg [iv r.Sym, .sl none 2 (List.map row_Tree r.Kids)])), []) := by
  refine Sat.fn fun Q hQ => ?_
  unfold law01_leaf at h
  rw [call40]
  conv => arg 1; arg 7; unfold S01.c40 Tryd.f40; simp only [Option.getD_some]
  simp only [go_sem]
  injection h with h; subst h
  exact Sat.ok hQ

def ref01_ValidAlphabet (a0 : Alphabet) : Option Bool :=
  if 12 < (a0.Ranks.length : Int) then
    some false
  else
    rangeL a0.Ranks () (fun k1 i1 x1 (s1 : Unit) n1 =>
      if x1 < 0 then
        some false
      else
        if 3 < x1 then
          some false
        else
          n1 ()) fun s1 =>
    some true
theorem spec16 (a0 : Alphabet) (r : Bool) (h : ref01_ValidAlphabet a0 = some r) :
    call Tryd.prog T H (.fn 16) [.p (.agg [.sl none 1 (List.map rowI a0.Ranks)])] [] = some (.ret (.p (bv r)), []) := by
  refine Sat.fn fun Q hQ => ?_
  unfold ref01_ValidAlphabet at h
  rw [call16]
  conv => arg 1; arg 7; unfold S01.c16 Tryd.f16; simp only [Option.getD_some]
  by_cases c1 : 12 < (a0.Ranks.length : Int)
  · have h := iteT h c1
    simp only [go_sem, c1]
    injection h with h; subst h
    exact Sat.ok hQ
  · have h := iteF h c1
    simp only [go_sem, c1]
    refine run_rangeL (c := L16_0) (live := [10, 11, 12]) (by simp only [go_sem]) (M := fun i1 (s1 : Unit) => [(10, .p (.sl none 1 (List.map rowI a0.Ranks))), (11, .p (iv (a0.Ranks.length : Int))), (12, .p (iv (i1 : Int)))]) (Z := fun i1 (s1 : Unit) => [.cells [.p (.sl none 1 (List.map rowI a0.Ranks))]]) (N := fun (s1 : Unit) => ⟨[], [.cells [.p (.sl none 1 (List.map rowI a0.Ranks))]], [], none, false⟩) h rfl rfl (fun _ _ => rfl) ?_ ?_ ?_
    · intro s1 h
      try dsimp only at h ⊢
      simp only [go_sem]
      injection h with h; subst h
      exact Sat.ok hQ
    · intro K1 s1 hb1 he1
      try dsimp only
      conv => arg 1; arg 7; unfold L16_0 loopAt S01.c16 Tryd.f16; simp only [loopIn, Option.getD_some, if_true]
      simp only [go_sem, he1]
      exact hb1
    · intro K1 k1 i1 x1 s1 n1 hR1 hE1 hb1 hx1 hi1 hw1 ih1 h
      try dsimp only at h ⊢
      conv => arg 1; arg 7; unfold L16_0 loopAt S01.c16 Tryd.f16; simp only [loopIn, Option.getD_some, if_true]
      by_cases c2 : x1 < 0
      · have h := iteT h c2
        simp only [go_sem, hx1, hi1, hw1, c2, hR1, hE1]
        injection h with h; subst h
        exact Sat.ok hQ
      · have h := iteF h c2
        by_cases c3 : 3 < x1
        · have h := iteT h c3
          simp only [go_sem, hx1, hi1, hw1, c2, c3, hR1, hE1]
          injection h with h; subst h
          exact Sat.ok hQ
        · have h := iteF h c3
          simp only [go_sem, hx1, hi1, hw1, c2, c3, hR1, hE1]
          exact ih1 _ h

def ref01_shaped : Nat → Alphabet → Tree → Option Bool
  | 0, _, _ => none
  | n + 1, a0, a1 =>
    if a1.Sym < 0 then
      some false
    else
      if (a0.Ranks.length : Int) ≤ a1.Sym then
        some false
      else
        (idx a0.Ranks a1.Sym).bind fun v1 =>
        if (a1.Kids.length : Int) = v1 then
          rangeL a1.Kids () (fun k1 i1 x1 (s1 : Unit) n1 =>
            (ref01_shaped n a0 x1).bind fun v2 =>
            if v2 = true then
              n1 ()
            else
              some false) fun s1 =>
          some true
        else
          some false
theorem spec50 : ∀ (n : Nat), (∀ (a0 : Alphabet) (a1 : Tree) (r : Bool), ref01_shaped n a0 a1 = some r →
    call Tryd.prog T H (.fn 50) [.p (.agg [.sl none 1 (List.map rowI a0.Ranks)]), .p (.agg [iv a1.Sym, .sl none 2 (List.map row_Tree a1.Kids)])] [] = some (.ret (.p (bv r)), [])) := by
  intro n
  induction n with
  | zero => intro a0 a1 r h; cases h
  | succ n ih =>
    intro a0 a1 r h
    refine Sat.fn fun Q hQ => ?_
    rw [ref01_shaped] at h
    rw [call50]
    conv => arg 1; arg 7; unfold S01.c50 Tryd.f50; simp only [Option.getD_some]
    by_cases c1 : a1.Sym < 0
    · have h := iteT h c1
      simp only [go_sem, c1]
      injection h with h; subst h
      exact Sat.ok hQ
    · have h := iteF h c1
      by_cases c2 : (a0.Ranks.length : Int) ≤ a1.Sym
      · have h := iteT h c2
        simp only [go_sem, c1, c2]
        injection h with h; subst h
        exact Sat.ok hQ
      · have h := iteF h c2
        obtain ⟨v1, e_v1, h⟩ := ob h
        obtain ⟨e_v1a, e_v1b⟩ := idx_some e_v1
        by_cases c3 : (a1.Kids.length : Int) = v1
        · have h := iteT h c3
          have c3b : ((a1.Kids.length : Int) != v1) = false := bneF c3
          simp only [go_sem, c1, c2, e_v1a, e_v1b, c3b]
          refine run_rangeL (c := L50_0) (live := [2, 31, 32, 33]) (by simp only [go_sem]) (M := fun i1 (s1 : Unit) => [(2, .ptr 0 0), (31, .p (.sl none 2 (List.map row_Tree a1.Kids))), (32, .p (iv (a1.Kids.length : Int))), (33, .p (iv (i1 : Int)))]) (Z := fun i1 (s1 : Unit) => [.cells [.p (.sl none 1 (List.map rowI a0.Ranks))], .cells [.p (iv a1.Sym), .p (.sl none 2 (List.map row_Tree a1.Kids))]]) (N := fun (s1 : Unit) => ⟨[], [.cells [.p (.sl none 1 (List.map rowI a0.Ranks))], .cells [.p (iv a1.Sym), .p (.sl none 2 (List.map row_Tree a1.Kids))]], [], none, false⟩) h rfl rfl (fun _ _ => rfl) ?_ ?_ ?_
          · intro s1 h
            try dsimp only at h ⊢
            simp only [go_sem]
            injection h with h; subst h
            exact Sat.ok hQ
          · intro K1 s1 hb1 he1
            try dsimp only
            conv => arg 1; arg 7; unfold L50_0 loopAt S01.c50 Tryd.f50; simp only [loopIn, Option.getD_some, if_true]
            simp only [go_sem, he1]
            exact hb1
          · intro K1 k1 i1 x1 s1 n1 hR1 hE1 hb1 hx1 hi1 hw1 ih1 h
            try dsimp only at h ⊢
            conv => arg 1; arg 7; unfold L50_0 loopAt S01.c50 Tryd.f50; simp only [loopIn, Option.getD_some, if_true]
            obtain ⟨v2, e_v2, h⟩ := ob h
            have e_v2c : call Tryd.prog T H (.fn 50) [.p (.agg [.sl none 1 (List.map rowI a0.Ranks)]), .p (.agg [iv x1.Sym, .sl none 2 (List.map row_Tree x1.Kids)])] [] = some (.ret (.p (bv v2)), []) := ih a0 x1 v2 e_v2
            by_cases c4 : v2 = true
            · have h := iteT h c4
              simp only [go_sem, hx1, hi1, hw1, e_v2c, c4, hR1, hE1]
              exact ih1 _ h
            · have h := iteF h c4
              have c4 := eq_false_of_ne_true c4
              simp only [go_sem, hx1, hi1, hw1, e_v2c, c4, hR1, hE1]
              injection h with h; subst h
              exact Sat.ok hQ
        · have h := iteF h c3
          have c3b : ((a1.Kids.length : Int) != v1) = true := bneT c3
          simp only [go_sem, c1, c2, e_v1a, e_v1b, c3b]
          injection h with h; subst h
          exact Sat.ok hQ

def ref01_Valid (n : Nat) (a0 : Alphabet) (a1 : Tree) : Option Bool :=
  (ref01_ValidAlphabet a0).bind fun v1 =>
  if v1 = true then
    (ref01_Few n a1 300).bind fun v2 =>
    if v2 = true then
      (ref01_shaped n a0 a1).bind fun v3 =>
      some v3
    else
      some false
  else
    some false
theorem spec18 (n : Nat) (a0 : Alphabet) (a1 : Tree) (r : Bool) (h : ref01_Valid n a0 a1 = some r) :
    call Tryd.prog T H (.fn 18) [.p (.agg [.sl none 1 (List.map rowI a0.Ranks)]), .p (.agg [iv a1.Sym, .sl none 2 (List.map row_Tree a1.Kids)])] [] = some (.ret (.p (bv r)), []) := by
  refine Sat.fn fun Q hQ => ?_
  unfold ref01_Valid at h
  rw [call18]
  conv => arg 1; arg 7; unfold S01.c18 Tryd.f18; simp only [Option.getD_some]
  obtain ⟨v1, e_v1, h⟩ := ob h
  have e_v1c : call Tryd.prog T H (.fn 16) [.p (.agg [.sl none 1 (List.map rowI a0.Ranks)])] [] = some (.ret (.p (bv v1)), []) := spec16 a0 v1 e_v1
  by_cases c1 : v1 = true
  · have h := iteT h c1
    obtain ⟨v2, e_v2, h⟩ := ob h
    have e_v2c : call Tryd.prog T H (.fn 38) [.p (.agg [iv a1.Sym, .sl none 2 (List.map row_Tree a1.Kids)]), .p (iv 300)] [] = some (.ret (.p (bv v2)), []) := spec38 n a1 300 v2 e_v2
    by_cases c2 : v2 = true
    · have h := iteT h c2
      obtain ⟨v3, e_v3, h⟩ := ob h
      have e_v3c : call Tryd.prog T H (.fn 50) [.p (.agg [.sl none 1 (List.map rowI a0.Ranks)]), .p (.agg [iv a1.Sym, .sl none 2 (List.map row_Tree a1.Kids)])] [] = some (.ret (.p (bv v3)), []) := spec50 n a0 a1 v3 e_v3
      simp only [go_sem, e_v1c, c1, e_v2c, c2, e_v3c]
      injection h with h; subst h
      exact Sat.ok hQ
    · have h := iteF h c2
      have c2 := eq_false_of_ne_true c2
      simp only [go_sem, e_v1c, c1, e_v2c, c2]
      injection h with h; subst h
      exact Sat.ok hQ
  · have h := iteF h c1
    have c1 := eq_false_of_ne_true c1
    simp only [go_sem, e_v1c, c1]
    injection h with h; subst h
    exact Sat.ok hQ

def tree_Size : Nat → Tree → Option Int
  | 0, _ => none
  | n + 1, a0 =>
    rangeL a0.Kids 1 (fun k1 i1 x1 (s1 : Int) n1 =>
      (tree_Size n x1).bind fun v1 =>
      n1 (w64 (s1 + v1))) fun s1 =>
    some s1
theorem spec19 : ∀ (n : Nat), (∀ (a0 : Tree) (r : Int), tree_Size n a0 = some r →
    call Tryd.prog T H (.fn 19) [.p (.agg [iv a0.Sym, .sl none 2 (List.map row_Tree a0.Kids)])] [] = some (.ret (.p (iv r)), [])) := by
  intro n
  induction n with
  | zero => intro a0 r h; cases h
  | succ n ih =>
    intro a0 r h
    refine Sat.fn fun Q hQ => ?_
    rw [tree_Size] at h
    rw [call19]
    conv => arg 1; arg 7; unfold S01.c19 Tryd.f19; simp only [Option.getD_some]
    simp only [go_sem]
    refine run_rangeL (c := L19_0) (live := [3, 7, 8, 9]) (by simp only [go_sem]) (M := fun i1 (s1 : Int) => [(3, .p (iv s1)), (7, .p (.sl none 2 (List.map row_Tree a0.Kids))), (8, .p (iv (a0.Kids.length : Int))), (9, .p (iv (i1 : Int)))]) (Z := fun i1 (s1 : Int) => [.cells [.p (iv a0.Sym), .p (.sl none 2 (List.map row_Tree a0.Kids))]]) (N := fun (s1 : Int) => ⟨[(3, .p (iv s1))], [.cells [.p (iv a0.Sym), .p (.sl none 2 (List.map row_Tree a0.Kids))]], [], none, false⟩) h rfl rfl (fun _ _ => rfl) ?_ ?_ ?_
    · intro s1 h
      try dsimp only at h ⊢
      simp only [go_sem]
      injection h with h; subst h
      exact Sat.ok hQ
    · intro K1 s1 hb1 he1
      try dsimp only
      conv => arg 1; arg 7; unfold L19_0 loopAt S01.c19 Tryd.f19; simp only [loopIn, Option.getD_some, if_true]
      simp only [go_sem, he1]
      exact hb1
    · intro K1 k1 i1 x1 s1 n1 hR1 hE1 hb1 hx1 hi1 hw1 ih1 h
      try dsimp only at h ⊢
      conv => arg 1; arg 7; unfold L19_0 loopAt S01.c19 Tryd.f19; simp only [loopIn, Option.getD_some, if_true]
      obtain ⟨v1, e_v1, h⟩ := ob h
      have e_v1c : call Tryd.prog T H (.fn 19) [.p (.agg [iv x1.Sym, .sl none 2 (List.map row_Tree x1.Kids)])] [] = some (.ret (.p (iv v1)), []) := ih x1 v1 e_v1
      simp only [go_sem, hx1, hi1, hw1, e_v1c, hR1, hE1]
      exact ih1 _ h

def ref01_Size : Nat → Tree → Option Int
  | 0, _ => none
  | n + 1, a0 =>
    rangeL a0.Kids 1 (fun k1 i1 x1 (s1 : Int) n1 =>
      (ref01_Size n x1).bind fun v1 =>
      n1 (w64 (s1 + v1))) fun s1 =>
    some s1
theorem spec20 : ∀ (n : Nat), (∀ (a0 : Tree) (r : Int), ref01_Size n a0 = some r →
    call Tryd.prog T H (.fn 20) [.p (.agg [iv a0.Sym, .sl none 2 (List.map row_Tree a0.Kids)])] [] = some (.ret (.p (iv r)), [])) := by
  intro n
  induction n with
  | zero => intro a0 r h; cases h
  | succ n ih =>
    intro a0 r h
    refine Sat.fn fun Q hQ => ?_
    rw [ref01_Size] at h
    rw [call20]
    conv => arg 1; arg 7; unfold S01.c20 Tryd.f20; simp only [Option.getD_some]
    simp only [go_sem]
    refine run_rangeL (c := L20_0) (live := [3, 7, 8, 9]) (by simp only [go_sem]) (M := fun i1 (s1 : Int) => [(3, .p (iv s1)), (7, .p (.sl none 2 (List.map row_Tree a0.Kids))), (8, .p (iv (a0.Kids.length : Int))), (9, .p (iv (i1 : Int)))]) (Z := fun i1 (s1 : Int) => [.cells [.p (iv a0.Sym), .p (.sl none 2 (List.map row_Tree a0.Kids))]]) (N := fun (s1 : Int) => ⟨[(3, .p (iv s1))], [.cells [.p (iv a0.Sym), .p (.sl none 2 (List.map row_Tree a0.Kids))]], [], none, false⟩) h rfl rfl (fun _ _ => rfl) ?_ ?_ ?_
    · intro s1 h
      try dsimp only at h ⊢
      simp only [go_sem]
      injection h with h; subst h
      exact Sat.ok hQ
    · intro K1 s1 hb1 he1
      try dsimp only
      conv => arg 1; arg 7; unfold L20_0 loopAt S01.c20 Tryd.f20; simp only [loopIn, Option.getD_some, if_true]
      simp only [go_sem, he1]
      exact hb1
    · intro K1 k1 i1 x1 s1 n1 hR1 hE1 hb1 hx1 hi1 hw1 ih1 h
      try dsimp only at h ⊢
      conv => arg 1; arg 7; unfold L20_0 loopAt S01.c20 Tryd.f20; simp only [loopIn, Option.getD_some, if_true]
      obtain ⟨v1, e_v1, h⟩ := ob h
      have e_v1c : call Tryd.prog T H (.fn 20) [.p (.agg [iv x1.Sym, .sl none 2 (List.map row_Tree x1.Kids)])] [] = some (.ret (.p (iv v1)), []) := ih x1 v1 e_v1
      simp only [go_sem, hx1, hi1, hw1, e_v1c, hR1, hE1]
      exact ih1 _ h

def tree_Depth : Nat → Tree → Option Int
  | 0, _ => none
  | n + 1, a0 =>
    rangeL a0.Kids 0 (fun k1 i1 x1 (s1 : Int) n1 =>
      (tree_Depth n x1).bind fun v1 =>
      n1 (maxI s1 v1)) fun s1 =>
    some (w64 (s1 + 1))
theorem spec21 : ∀ (n : Nat), (∀ (a0 : Tree) (r : Int), tree_Depth n a0 = some r →
    call Tryd.prog T H (.fn 21) [.p (.agg [iv a0.Sym, .sl none 2 (List.map row_Tree a0.Kids)])] [] = some (.ret (.p (iv r)), [])) := by
  intro n
  induction n with
  | zero => intro a0 r h; cases h
  | succ n ih =>
    intro a0 r h
    refine Sat.fn fun Q hQ => ?_
    rw [tree_Depth] at h
    rw [call21]
    conv => arg 1; arg 7; unfold S01.c21 Tryd.f21; simp only [Option.getD_some]
    simp only [go_sem]
    refine run_rangeL (c := L21_0) (live := [3, 7, 8, 9]) (by simp only [go_sem]) (M := fun i1 (s1 : Int) => [(3, .p (iv s1)), (7, .p (.sl none 2 (List.map row_Tree a0.Kids))), (8, .p (iv (a0.Kids.length : Int))), (9, .p (iv (i1 : Int)))]) (Z := fun i1 (s1 : Int) => [.cells [.p (iv a0.Sym), .p (.sl none 2 (List.map row_Tree a0.Kids))]]) (N := fun (s1 : Int) => ⟨[(3, .p (iv s1))], [.cells [.p (iv a0.Sym), .p (.sl none 2 (List.map row_Tree a0.Kids))]], [], none, false⟩) h rfl rfl (fun _ _ => rfl) ?_ ?_ ?_
    · intro s1 h
      try dsimp only at h ⊢
      simp only [go_sem]
      injection h with h; subst h
      exact Sat.ok hQ
    · intro K1 s1 hb1 he1
      try dsimp only
      conv => arg 1; arg 7; unfold L21_0 loopAt S01.c21 Tryd.f21; simp only [loopIn, Option.getD_some, if_true]
      simp only [go_sem, he1]
      exact hb1
    · intro K1 k1 i1 x1 s1 n1 hR1 hE1 hb1 hx1 hi1 hw1 ih1 h
      try dsimp only at h ⊢
      conv => arg 1; arg 7; unfold L21_0 loopAt S01.c21 Tryd.f21; simp only [loopIn, Option.getD_some, if_true]
      obtain ⟨v1, e_v1, h⟩ := ob h
      have e_v1c : call Tryd.prog T H (.fn 21) [.p (.agg [iv x1.Sym, .sl none 2 (List.map row_Tree x1.Kids)])] [] = some (.ret (.p (iv v1)), []) := ih x1 v1 e_v1
      simp only [go_sem, hx1, hi1, hw1, e_v1c, hR1, hE1]
      exact ih1 _ h

def ref01_Depth : Nat → Tree → Option Int
  | 0, _ => none
  | n + 1, a0 =>
    rangeL a0.Kids 0 (fun k1 i1 x1 (s1 : Int) n1 =>
      (ref01_Depth n x1).bind fun v1 =>
      n1 (maxI s1 v1)) fun s1 =>
    some (w64 (s1 + 1))
theorem spec22 : ∀ (n : Nat), (∀ (a0 : Tree) (r : Int), ref01_Depth n a0 = some r →
    call Tryd.prog T H (.fn 22) [.p (.agg [iv a0.Sym, .sl none 2 (List.map row_Tree a0.Kids)])] [] = some (.ret (.p (iv r)), [])) := by
  intro n
  induction n with
  | zero => intro a0 r h; cases h
  | succ n ih =>
    intro a0 r h
    refine Sat.fn fun Q hQ => ?_
    rw [ref01_Depth] at h
    rw [call22]
    conv => arg 1; arg 7; unfold S01.c22 Tryd.f22; simp only [Option.getD_some]
    simp only [go_sem]
    refine run_rangeL (c := L22_0) (live := [3, 7, 8, 9]) (by simp only [go_sem]) (M := fun i1 (s1 : Int) => [(3, .p (iv s1)), (7, .p (.sl none 2 (List.map row_Tree a0.Kids))), (8, .p (iv (a0.Kids.length : Int))), (9, .p (iv (i1 : Int)))]) (Z := fun i1 (s1 : Int) => [.cells [.p (iv a0.Sym), .p (.sl none 2 (List.map row_Tree a0.Kids))]]) (N := fun (s1 : Int) => ⟨[(3, .p (iv s1))], [.cells [.p (iv a0.Sym), .p (.sl none 2 (List.map row_Tree a0.Kids))]], [], none, false⟩) h rfl rfl (fun _ _ => rfl) ?_ ?_ ?_
    · intro s1 h
      try dsimp only at h ⊢
      simp only [go_sem]
      injection h with h; subst h
      exact Sat.ok hQ
    · intro K1 s1 hb1 he1
      try dsimp only
      conv => arg 1; arg 7; unfold L22_0 loopAt S01.c22 Tryd.f22; simp only [loopIn, Option.getD_some, if_true]
      simp only [go_sem, he1]
      exact hb1
    · intro K1 k1 i1 x1 s1 n1 hR1 hE1 hb1 hx1 hi1 hw1 ih1 h
      try dsimp only at h ⊢
      conv => arg 1; arg 7; unfold L22_0 loopAt S01.c22 Tryd.f22; simp only [loopIn, Option.getD_some, if_true]
      obtain ⟨v1, e_v1, h⟩ := ob h
      have e_v1c : call Tryd.prog T H (.fn 22) [.p (.agg [iv x1.Sym, .sl none 2 (List.map row_Tree x1.Kids)])] [] = some (.ret (.p (iv v1)), []) := ih x1 v1 e_v1
      simp only [go_sem, hx1, hi1, hw1, e_v1c, hR1, hE1]
      exact ih1 _ h

def ref01_order (a0 : Int) (a1 : Int) : Option Int :=
  if a0 < a1 then
    some (-1)
  else
    if a1 < a0 then
      some 1
    else
      some 0
theorem spec51 (a0 : Int) (a1 : Int) (r : Int) (h : ref01_order a0 a1 = some r) :
    call Tryd.prog T H (.fn 51) [.p (iv a0), .p (iv a1)] [] = some (.ret (.p (iv r)), []) := by
  refine Sat.fn fun Q hQ => ?_
  unfold ref01_order at h
  rw [call51]
  conv => arg 1; arg 7; unfold S01.c51 Tryd.f51; simp only [Option.getD_some]
  by_cases c1 : a0 < a1
  · have h := iteT h c1
    simp only [go_sem, c1]
    injection h with h; subst h
    exact Sat.ok hQ
  · have h := iteF h c1
    by_cases c2 : a1 < a0
    · have h := iteT h c2
      simp only [go_sem, c1, c2]
      injection h with h; subst h
      exact Sat.ok hQ
    · have h := iteF h c2
      simp only [go_sem, c1, c2]
      injection h with h; subst h
      exact Sat.ok hQ

def ref01_Compare : Nat → Tree → Tree → Option Int
  | 0, _, _ => none
  | n + 1, a0, a1 =>
    (ref01_Size n a0).bind fun v1 =>
    (ref01_Size n a1).bind fun v2 =>
    (ref01_order v1 v2).bind fun v3 =>
    if v3 = 0 then
      (ref01_order a0.Sym a1.Sym).bind fun v4 =>
      if v4 = 0 then
        rangeI (minI (a0.Kids.length : Int) (a1.Kids.length : Int)) () (fun k1 i1 (s1 : Unit) n1 =>
          (a0.Kids[i1]?).bind fun v6 =>
          (a1.Kids[i1]?).bind fun v7 =>
          (ref01_Compare n v6 v7).bind fun v8 =>
          if v8 = 0 then
            n1 ()
          else
            some v8) fun s1 =>
        (ref01_order (a0.Kids.length : Int) (a1.Kids.length : Int)).bind fun v5 =>
        some v5
      else
        some v4
    else
      some v3
theorem spec23 : ∀ (n : Nat), (∀ (a0 : Tree) (a1 : Tree) (r : Int), ref01_Compare n a0 a1 = some r →
    call Tryd.prog T H (.fn 23) [.p (.agg [iv a0.Sym, .sl none 2 (List.map row_Tree a0.Kids)]), .p (.agg [iv a1.Sym, .sl none 2 (List.map row_Tree a1.Kids)])] [] = some (.ret (.p (iv r)), [])) := by
  intro n
  induction n with
  | zero => intro a0 a1 r h; cases h
  | succ n ih =>
    intro a0 a1 r h
    refine Sat.fn fun Q hQ => ?_
    rw [ref01_Compare] at h
    rw [call23]
    conv => arg 1; arg 7; unfold S01.c23 Tryd.f23; simp only [Option.getD_some]
    obtain ⟨v1, e_v1, h⟩ := ob h
    have e_v1c : call Tryd.prog T H (.fn 20) [.p (.agg [iv a0.Sym, .sl none 2 (List.map row_Tree a0.Kids)])] [] = some (.ret (.p (iv v1)), []) := spec20 n a0 v1 e_v1
    obtain ⟨v2, e_v2, h⟩ := ob h
    have e_v2c : call Tryd.prog T H (.fn 20) [.p (.agg [iv a1.Sym, .sl none 2 (List.map row_Tree a1.Kids)])] [] = some (.ret (.p (iv v2)), []) := spec20 n a1 v2 e_v2
    obtain ⟨v3, e_v3, h⟩ := ob h
    have e_v3c : call Tryd.prog T H (.fn 51) [.p (iv v1), .p (iv v2)] [] = some (.ret (.p (iv v3)), []) := spec51 v1 v2 v3 e_v3
    by_cases c1 : v3 = 0
    · have h := iteT h c1
      have c1b : (v3 != 0) = false := bneF c1
      obtain ⟨v4, e_v4, h⟩ := ob h
      have e_v4c : call Tryd.prog T H (.fn 51) [.p (iv a0.Sym), .p (iv a1.Sym)] [] = some (.ret (.p (iv v4)), []) := spec51 a0.Sym a1.Sym v4 e_v4
      by_cases c2 : v4 = 0
      · have h := iteT h c2
        have c2b : (v4 != 0) = false := bneF c2
        simp only [go_sem, e_v1c, e_v2c, e_v3c, c1b, e_v4c, c2b]
        refine run_rangeI (c := L23_0) (live := [2, 3, 31, 32]) (by simp only [go_sem]) (M := fun i1 (s1 : Unit) => [(2, .ptr 0 0), (3, .ptr 1 0), (31, .p (iv (minI (a0.Kids.length : Int) (a1.Kids.length : Int)))), (32, .p (iv (i1 : Int)))]) (Z := fun i1 (s1 : Unit) => [.cells [.p (iv a0.Sym), .p (.sl none 2 (List.map row_Tree a0.Kids))], .cells [.p (iv a1.Sym), .p (.sl none 2 (List.map row_Tree a1.Kids))]]) (N := fun (s1 : Unit) => ⟨[(2, .ptr 0 0), (3, .ptr 1 0)], [.cells [.p (iv a0.Sym), .p (.sl none 2 (List.map row_Tree a0.Kids))], .cells [.p (iv a1.Sym), .p (.sl none 2 (List.map row_Tree a1.Kids))]], [], none, false⟩) h rfl rfl (fun _ _ => rfl) ?_ ?_ ?_
        · intro s1 h
          try dsimp only at h ⊢
          obtain ⟨v5, e_v5, h⟩ := ob h
          have e_v5c : call Tryd.prog T H (.fn 51) [.p (iv (a0.Kids.length : Int)), .p (iv (a1.Kids.length : Int))] [] = some (.ret (.p (iv v5)), []) := spec51 (a0.Kids.length : Int) (a1.Kids.length : Int) v5 e_v5
          simp only [go_sem, e_v5c]
          injection h with h; subst h
          exact Sat.ok hQ
        · intro K1 i1 s1 hb1 he1
          try dsimp only
          conv => arg 1; arg 7; unfold L23_0 loopAt S01.c23 Tryd.f23; simp only [loopIn, Option.getD_some, if_true]
          simp only [go_sem, he1]
          exact hb1
        · intro K1 k1 i1 s1 n1 hR1 hE1 hb1 hi1 hw1 ih1 h
          try dsimp only at h ⊢
          conv => arg 1; arg 7; unfold L23_0 loopAt S01.c23 Tryd.f23; simp only [loopIn, Option.getD_some, if_true]
          obtain ⟨v6, e_v6, h⟩ := ob h
          obtain ⟨v7, e_v7, h⟩ := ob h
          obtain ⟨v8, e_v8, h⟩ := ob h
          have e_v8c : call Tryd.prog T H (.fn 23) [.p (.agg [iv v6.Sym, .sl none 2 (List.map row_Tree v6.Kids)]), .p (.agg [iv v7.Sym, .sl none 2 (List.map row_Tree v7.Kids)])] [] = some (.ret (.p (iv v8)), []) := ih v6 v7 v8 e_v8
          by_cases c3 : v8 = 0
          · have h := iteT h c3
            have c3b : (v8 != 0) = false := bneF c3
            simp only [go_sem, hi1, hw1, e_v6, e_v7, e_v8c, c3b, hR1, hE1]
            exact ih1 _ h
          · have h := iteF h c3
            have c3b : (v8 != 0) = true := bneT c3
            simp only [go_sem, hi1, hw1, e_v6, e_v7, e_v8c, c3b, hR1, hE1]
            injection h with h; subst h
            exact Sat.ok hQ
      · have h := iteF h c2
        have c2b : (v4 != 0) = true := bneT c2
        simp only [go_sem, e_v1c, e_v2c, e_v3c, c1b, e_v4c, c2b]
        injection h with h; subst h
        exact Sat.ok hQ
    · have h := iteF h c1
      have c1b : (v3 != 0) = true := bneT c1
      simp only [go_sem, e_v1c, e_v2c, e_v3c, c1b]
      injection h with h; subst h
      exact Sat.ok hQ

def tree_letter (a0 : Int) : Option Bool :=
  if 97 ≤ a0 then
    if a0 ≤ 122 then
      some true
    else
      if 65 ≤ a0 then
        some (decide (a0 ≤ 90))
      else
        some false
  else
    if 65 ≤ a0 then
      some (decide (a0 ≤ 90))
    else
      some false
theorem spec52 (a0 : Int) (r : Bool) (h : tree_letter a0 = some r) :
    call Tryd.prog T H (.fn 52) [.p (.lit (.int .u8 a0))] [] = some (.ret (.p (bv r)), []) := by
  refine Sat.fn fun Q hQ => ?_
  unfold tree_letter at h
  rw [call52]
  conv => arg 1; arg 7; unfold S01.c52 Tryd.f52; simp only [Option.getD_some]
  by_cases c1 : 97 ≤ a0
  · have h := iteT h c1
    by_cases c2 : a0 ≤ 122
    · have h := iteT h c2
      simp only [go_sem, c1, c2]
      injection h with h; subst h
      exact Sat.ok hQ
    · have h := iteF h c2
      by_cases c3 : 65 ≤ a0
      · have h := iteT h c3
        simp only [go_sem, c1, c2, c3]
        injection h with h; subst h
        exact Sat.ok hQ
      · have h := iteF h c3
        simp only [go_sem, c1, c2, c3]
        injection h with h; subst h
        exact Sat.ok hQ
  · have h := iteF h c1
    by_cases c4 : 65 ≤ a0
    · have h := iteT h c4
      simp only [go_sem, c1, c4]
      injection h with h; subst h
      exact Sat.ok hQ
    · have h := iteF h c4
      simp only [go_sem, c1, c4]
      injection h with h; subst h
      exact Sat.ok hQ

def tree_digit (a0 : Int) : Option Bool :=
  if 48 ≤ a0 then
    some (decide (a0 ≤ 57))
  else
    some false
theorem spec53 (a0 : Int) (r : Bool) (h : tree_digit a0 = some r) :
    call Tryd.prog T H (.fn 53) [.p (.lit (.int .u8 a0))] [] = some (.ret (.p (bv r)), []) := by
  refine Sat.fn fun Q hQ => ?_
  unfold tree_digit at h
  rw [call53]
  conv => arg 1; arg 7; unfold S01.c53 Tryd.f53; simp only [Option.getD_some]
  by_cases c1 : 48 ≤ a0
  · have h := iteT h c1
    simp only [go_sem, c1]
    injection h with h; subst h
    exact Sat.ok hQ
  · have h := iteF h c1
    simp only [go_sem, c1]
    injection h with h; subst h
    exact Sat.ok hQ

def tree_Name (a0 : Str) : Option Bool :=
  if a0 = ([] : Str) then
    some false
  else
    if 12 < (a0.length : Int) then
      some false
    else
      (a0[0]?).bind fun v1 =>
      (tree_letter (v1.toNat : Int)).bind fun v2 =>
      if v2 = true then
        rangeI (a0.length : Int) () (fun k1 i1 (s1 : Unit) n1 =>
          (a0[i1]?).bind fun v3 =>
          (tree_letter (v3.toNat : Int)).bind fun v4 =>
          if v4 = true then
            n1 ()
          else
            (tree_digit (v3.toNat : Int)).bind fun v5 =>
            if v5 = true then
              n1 ()
            else
              some false) fun s1 =>
        some true
      else
        some false
theorem spec25 (a0 : Str) (r : Bool) (h : tree_Name a0 = some r) :
    call Tryd.prog T H (.fn 25) [.p (.lit (.string (bs a0)))] [] = some (.ret (.p (bv r)), []) := by
  refine Sat.fn fun Q hQ => ?_
  unfold tree_Name at h
  rw [call25]
  conv => arg 1; arg 7; unfold S01.c25 Tryd.f25; simp only [Option.getD_some]
  by_cases c1 : a0 = ([] : Str)
  · have h := iteT h c1
    have c1b : (a0 == ([] : Str)) = true := beqT c1
    simp only [go_sem, c1b]
    injection h with h; subst h
    exact Sat.ok hQ
  · have h := iteF h c1
    have c1b : (a0 == ([] : Str)) = false := beqF c1
    by_cases c2 : 12 < (a0.length : Int)
    · have h := iteT h c2
      simp only [go_sem, c1b, c2]
      injection h with h; subst h
      exact Sat.ok hQ
    · have h := iteF h c2
      obtain ⟨v1, e_v1, h⟩ := ob h
      obtain ⟨v2, e_v2, h⟩ := ob h
      have e_v2c : call Tryd.prog T H (.fn 52) [.p (.lit (.int .u8 (v1.toNat : Int)))] [] = some (.ret (.p (bv v2)), []) := spec52 (v1.toNat : Int) v2 e_v2
      by_cases c3 : v2 = true
      · have h := iteT h c3
        simp only [go_sem, c1b, c2, e_v1, e_v2c, c3]
        refine run_rangeI (c := L25_0) (live := [0, 18, 19]) (by simp only [go_sem]) (M := fun i1 (s1 : Unit) => [(0, .p (.lit (.string (bs a0)))), (18, .p (iv (a0.length : Int))), (19, .p (iv (i1 : Int)))]) (Z := fun i1 (s1 : Unit) => []) (N := fun (s1 : Unit) => ⟨[], [], [], none, false⟩) h rfl rfl (fun _ _ => rfl) ?_ ?_ ?_
        · intro s1 h
          try dsimp only at h ⊢
          simp only [go_sem]
          injection h with h; subst h
          exact Sat.ok hQ
        · intro K1 i1 s1 hb1 he1
          try dsimp only
          conv => arg 1; arg 7; unfold L25_0 loopAt S01.c25 Tryd.f25; simp only [loopIn, Option.getD_some, if_true]
          simp only [go_sem, he1]
          exact hb1
        · intro K1 k1 i1 s1 n1 hR1 hE1 hb1 hi1 hw1 ih1 h
          try dsimp only at h ⊢
          conv => arg 1; arg 7; unfold L25_0 loopAt S01.c25 Tryd.f25; simp only [loopIn, Option.getD_some, if_true]
          obtain ⟨v3, e_v3, h⟩ := ob h
          obtain ⟨v4, e_v4, h⟩ := ob h
          have e_v4c : call Tryd.prog T H (.fn 52) [.p (.lit (.int .u8 (v3.toNat : Int)))] [] = some (.ret (.p (bv v4)), []) := spec52 (v3.toNat : Int) v4 e_v4
          by_cases c4 : v4 = true
          · have h := iteT h c4
            simp only [go_sem, hi1, hw1, e_v3, e_v4c, c4, hR1, hE1]
            exact ih1 _ h
          · have h := iteF h c4
            have c4 := eq_false_of_ne_true c4
            obtain ⟨v5, e_v5, h⟩ := ob h
            have e_v5c : call Tryd.prog T H (.fn 53) [.p (.lit (.int .u8 (v3.toNat : Int)))] [] = some (.ret (.p (bv v5)), []) := spec53 (v3.toNat : Int) v5 e_v5
            by_cases c5 : v5 = true
            · have h := iteT h c5
              simp only [go_sem, hi1, hw1, e_v3, e_v4c, c4, e_v5c, c5, hR1, hE1]
              exact ih1 _ h
            · have h := iteF h c5
              have c5 := eq_false_of_ne_true c5
              simp only [go_sem, hi1, hw1, e_v3, e_v4c, c4, e_v5c, c5, hR1, hE1]
              injection h with h; subst h
              exact Sat.ok hQ
      · have h := iteF h c3
        have c3 := eq_false_of_ne_true c3
        simp only [go_sem, c1b, c2, e_v1, e_v2c, c3]
        injection h with h; subst h
        exact Sat.ok hQ

def ref01_letter (a0 : Int) : Option Bool :=
  if 97 ≤ a0 then
    if a0 ≤ 122 then
      some true
    else
      if 65 ≤ a0 then
        some (decide (a0 ≤ 90))
      else
        some false
  else
    if 65 ≤ a0 then
      some (decide (a0 ≤ 90))
    else
      some false
theorem spec80 (a0 : Int) (r : Bool) (h : ref01_letter a0 = some r) :
    call Tryd.prog T H (.fn 80) [.p (.lit (.int .u8 a0))] [] = some (.ret (.p (bv r)), []) := by
  refine Sat.fn fun Q hQ => ?_
  unfold ref01_letter at h
  rw [call80]
  conv => arg 1; arg 7; unfold S01.c80 Tryd.f80; simp only [Option.getD_some]
  by_cases c1 : 97 ≤ a0
  · have h := iteT h c1
    by_cases c2 : a0 ≤ 122
    · have h := iteT h c2
      simp only [go_sem, c1, c2]
      injection h with h; subst h
      exact Sat.ok hQ
    · have h := iteF h c2
      by_cases c3 : 65 ≤ a0
      · have h := iteT h c3
        simp only [go_sem, c1, c2, c3]
        injection h with h; subst h
        exact Sat.ok hQ
      · have h := iteF h c3
        simp only [go_sem, c1, c2, c3]
        injection h with h; subst h
        exact Sat.ok hQ
  · have h := iteF h c1
    by_cases c4 : 65 ≤ a0
    · have h := iteT h c4
      simp only [go_sem, c1, c4]
      injection h with h; subst h
      exact Sat.ok hQ
    · have h := iteF h c4
      simp only [go_sem, c1, c4]
      injection h with h; subst h
      exact Sat.ok hQ

def ref01_digit (a0 : Int) : Option Bool :=
  if 48 ≤ a0 then
    some (decide (a0 ≤ 57))
  else
    some false
theorem spec81 (a0 : Int) (r : Bool) (h : ref01_digit a0 = some r) :
    call Tryd.prog T H (.fn 81) [.p (.lit (.int .u8 a0))] [] = some (.ret (.p (bv r)), []) := by
  refine Sat.fn fun Q hQ => ?_
  unfold ref01_digit at h
  rw [call81]
  conv => arg 1; arg 7; unfold S01.c81 Tryd.f81; simp only [Option.getD_some]
  by_cases c1 : 48 ≤ a0
  · have h := iteT h c1
    simp only [go_sem, c1]
    injection h with h; subst h
    exact Sat.ok hQ
  · have h := iteF h c1
    simp only [go_sem, c1]
    injection h with h; subst h
    exact Sat.ok hQ

def ref01_Word (n : Nat) (a0 : Str) : Option Int :=
  whileL n 0 (fun k1 (s1 : Int) n1 =>
    if s1 < (a0.length : Int) then
      (idx a0 s1).bind fun v1 =>
      (ref01_letter (v1.toNat : Int)).bind fun v2 =>
      if v2 = true then
        n1 (w64 (s1 + 1))
      else
        if 0 < s1 then
          (ref01_digit (v1.toNat : Int)).bind fun v3 =>
          if v3 = true then
            n1 (w64 (s1 + 1))
          else
            k1 s1
        else
          k1 s1
    else
      k1 s1) fun s1 =>
  some s1
theorem spec54 (n : Nat) (a0 : Str) (r : Int) (h : ref01_Word n a0 = some r) :
    call Tryd.prog T H (.fn 54) [.p (.lit (.string (bs a0)))] [] = some (.ret (.p (iv r)), []) := by
  refine Sat.fn fun Q hQ => ?_
  unfold ref01_Word at h
  rw [call54]
  conv => arg 1; arg 7; unfold S01.c54 Tryd.f54; simp only [Option.getD_some]
  simp only [go_sem]
  refine run_whileL (c := L54_0) (live := [0, 3]) (by simp only [go_sem]) (M := fun (s1 : Int) => [(0, .p (.lit (.string (bs a0)))), (3, .p (iv s1))]) (Z := fun (s1 : Int) => []) (N := fun (s1 : Int) => ⟨[(3, .p (iv s1))], [], [], none, false⟩) h rfl rfl (fun _ => rfl) ?_ ?_
  · intro s1 h
    try dsimp only at h ⊢
    simp only [go_sem]
    injection h with h; subst h
    exact Sat.ok hQ
  · intro K1 k1 s1 n1 hR1 hE1 hb1 ih1 h
    try dsimp only at h ⊢
    conv => arg 1; arg 7; unfold L54_0 loopAt S01.c54 Tryd.f54; simp only [loopIn, Option.getD_some, if_true]
    by_cases c1 : s1 < (a0.length : Int)
    · have h := iteT h c1
      obtain ⟨v1, e_v1, h⟩ := ob h
      obtain ⟨e_v1a, e_v1b⟩ := idx_some e_v1
      obtain ⟨v2, e_v2, h⟩ := ob h
      have e_v2c : call Tryd.prog T H (.fn 80) [.p (.lit (.int .u8 (v1.toNat : Int)))] [] = some (.ret (.p (bv v2)), []) := spec80 (v1.toNat : Int) v2 e_v2
      by_cases c2 : v2 = true
      · have h := iteT h c2
        simp only [go_sem, c1, e_v1a, e_v1b, e_v2c, c2, hR1, hE1]
        exact ih1 _ h
      · have h := iteF h c2
        have c2 := eq_false_of_ne_true c2
        by_cases c3 : 0 < s1
        · have h := iteT h c3
          obtain ⟨v3, e_v3, h⟩ := ob h
          have e_v3c : call Tryd.prog T H (.fn 81) [.p (.lit (.int .u8 (v1.toNat : Int)))] [] = some (.ret (.p (bv v3)), []) := spec81 (v1.toNat : Int) v3 e_v3
          by_cases c4 : v3 = true
          · have h := iteT h c4
            simp only [go_sem, c1, e_v1a, e_v1b, e_v2c, c2, c3, e_v3c, c4, hR1, hE1]
            exact ih1 _ h
          · have h := iteF h c4
            have c4 := eq_false_of_ne_true c4
            simp only [go_sem, c1, e_v1a, e_v1b, e_v2c, c2, c3, e_v3c, c4, hR1, hE1]
            exact hb1 _ h
        · have h := iteF h c3
          simp only [go_sem, c1, e_v1a, e_v1b, e_v2c, c2, c3, hR1, hE1]
          exact hb1 _ h
    · have h := iteF h c1
      simp only [go_sem, c1, hR1, hE1]
      exact hb1 _ h

def ref01_Name (n : Nat) (a0 : Str) : Option Bool :=
  if a0 = ([] : Str) then
    some false
  else
    if (a0.length : Int) ≤ 12 then
      (ref01_Word n a0).bind fun v1 =>
      some (v1 == (a0.length : Int))
    else
      some false
theorem spec26 (n : Nat) (a0 : Str) (r : Bool) (h : ref01_Name n a0 = some r) :
    call Tryd.prog T H (.fn 26) [.p (.lit (.string (bs a0)))] [] = some (.ret (.p (bv r)), []) := by
  refine Sat.fn fun Q hQ => ?_
  unfold ref01_Name at h
  rw [call26]
  conv => arg 1; arg 7; unfold S01.c26 Tryd.f26; simp only [Option.getD_some]
  by_cases c1 : a0 = ([] : Str)
  · have h := iteT h c1
    have c1b : (a0 == ([] : Str)) = true := beqT c1
    simp only [go_sem, c1b]
    injection h with h; subst h
    exact Sat.ok hQ
  · have h := iteF h c1
    have c1b : (a0 == ([] : Str)) = false := beqF c1
    by_cases c2 : (a0.length : Int) ≤ 12
    · have h := iteT h c2
      obtain ⟨v1, e_v1, h⟩ := ob h
      have e_v1c : call Tryd.prog T H (.fn 54) [.p (.lit (.string (bs a0)))] [] = some (.ret (.p (iv v1)), []) := spec54 n a0 v1 e_v1
      simp only [go_sem, c1b, c2, e_v1c]
      injection h with h; subst h
      exact Sat.ok hQ
    · have h := iteF h c2
      simp only [go_sem, c1b, c2]
      injection h with h; subst h
      exact Sat.ok hQ

def ref01_Places : Nat → Tree → Option (List (List Int))
  | 0, _ => none
  | n + 1, a0 =>
    rangeL a0.Kids [([] : List Int)] (fun k3 i3 x3 (s3 : (List (List Int))) n3 =>
      (ref01_Places n x3).bind fun v1 =>
      rangeL v1 s3 (fun k4 i4 x4 (s4 : (List (List Int))) n4 =>
        (app 8 [(i3 : Int)] x4).bind fun v2 =>
        (app 24 s4 [v2]).bind fun v3 =>
        n4 v3) fun s4 =>
      n3 s4) fun s3 =>
    some s3
theorem spec57 : ∀ (n : Nat), (∀ (a0 : Tree) (r : List (List Int)), ref01_Places n a0 = some r →
    call Tryd.prog T H (.fn 57) [.p (.agg [iv a0.Sym, .sl none 2 (List.map row_Tree a0.Kids)])] [] = some (.ret (.p (.sl none 1 (List.map (rowL 1 rowI) r))), [])) := by
  intro n
  induction n with
  | zero => intro a0 r h; cases h
  | succ n ih =>
    intro a0 r h
    refine Sat.fn fun Q hQ => ?_
    rw [ref01_Places] at h
    rw [call57]
    conv => arg 1; arg 7; unfold S01.c57 Tryd.f57; simp only [Option.getD_some]
    simp only [go_sem]
    refine run_rangeL (c := L57_0) (live := [3, 10, 11, 12]) (by simp only [go_sem]) (M := fun i3 (s3 : (List (List Int))) => [(3, .own 1 (List.map (rowL 1 rowI) s3)), (10, .p (.sl none 2 (List.map row_Tree a0.Kids))), (11, .p (iv (a0.Kids.length : Int))), (12, .p (iv (i3 : Int)))]) (Z := fun i3 (s3 : (List (List Int))) => [.cells [.p (iv a0.Sym), .p (.sl none 2 (List.map row_Tree a0.Kids))]]) (N := fun (s3 : (List (List Int))) => ⟨[(3, .own 1 (List.map (rowL 1 rowI) s3))], [.cells [.p (iv a0.Sym), .p (.sl none 2 (List.map row_Tree a0.Kids))]], [], none, false⟩) h rfl rfl (fun _ _ => rfl) ?_ ?_ ?_
    · intro s3 h
      try dsimp only at h ⊢
      simp only [go_sem]
      injection h with h; subst h
      exact Sat.ok hQ
    · intro K3 s3 hb3 he3
      try dsimp only
      conv => arg 1; arg 7; unfold L57_0 loopAt S01.c57 Tryd.f57; simp only [loopIn, Option.getD_some, if_true]
      simp only [go_sem, he3]
      exact hb3
    · intro K3 k3 i3 x3 s3 n3 hR3 hE3 hb3 hx3 hi3 hw3 ih3 h
      try dsimp only at h ⊢
      conv => arg 1; arg 7; unfold L57_0 loopAt S01.c57 Tryd.f57; simp only [loopIn, Option.getD_some, if_true]
      obtain ⟨v1, e_v1, h⟩ := ob h
      have e_v1c : call Tryd.prog T H (.fn 57) [.p (.agg [iv x3.Sym, .sl none 2 (List.map row_Tree x3.Kids)])] [] = some (.ret (.p (.sl none 1 (List.map (rowL 1 rowI) v1))), []) := ih x3 v1 e_v1
      simp only [go_sem, hx3, hi3, hw3, e_v1c, hR3, hE3]
      refine run_rangeL (c := L57_2) (live := [3, 4, 10, 11, 12, 18, 19, 20]) (by simp only [go_sem]) (M := fun i4 (s4 : (List (List Int))) => [(3, .own 1 (List.map (rowL 1 rowI) s4)), (4, .p (iv (i3 : Int))), (10, .p (.sl none 2 (List.map row_Tree a0.Kids))), (11, .p (iv (a0.Kids.length : Int))), (12, .p (iv (i3 : Int))), (18, .p (.sl none 1 (List.map (rowL 1 rowI) v1))), (19, .p (iv (v1.length : Int))), (20, .p (iv (i4 : Int)))]) (Z := fun i4 (s4 : (List (List Int))) => [.cells [.p (iv a0.Sym), .p (.sl none 2 (List.map row_Tree a0.Kids))], .cells [.p (iv x3.Sym), .p (.sl none 2 (List.map row_Tree x3.Kids))]]) (N := fun (s4 : (List (List Int))) => ⟨[(3, .own 1 (List.map (rowL 1 rowI) s4)), (10, .p (.sl none 2 (List.map row_Tree a0.Kids))), (11, .p (iv (a0.Kids.length : Int))), (12, .p (iv (i3 : Int)))], [.cells [.p (iv a0.Sym), .p (.sl none 2 (List.map row_Tree a0.Kids))], .cells [.p (iv x3.Sym), .p (.sl none 2 (List.map row_Tree x3.Kids))]], [], none, false⟩) h rfl rfl (fun _ _ => rfl) ?_ ?_ ?_
      · intro s4 h
        try dsimp only at h ⊢
        simp only [go_sem, hw3, hR3, hE3]
        exact ih3 _ h
      · intro K4 s4 hb4 he4
        try dsimp only
        conv => arg 1; arg 7; unfold L57_2 loopAt S01.c57 Tryd.f57; simp only [loopIn, Option.getD_some, if_true]
        simp only [go_sem, he4]
        exact hb4
      · intro K4 k4 i4 x4 s4 n4 hR4 hE4 hb4 hx4 hi4 hw4 ih4 h
        try dsimp only at h ⊢
        conv => arg 1; arg 7; unfold L57_2 loopAt S01.c57 Tryd.f57; simp only [loopIn, Option.getD_some, if_true]
        obtain ⟨v2, e_v2, h⟩ := ob h
        have e_v2a : boundOk (1 + x4.length) 8 = true := bnd_of (by have := (app_some e_v2).1; simpa using this) (by decide)
        have e_v2b : [[iv (i3 : Int)]] ++ (List.map rowI x4) = List.map rowI v2 := by rw [(app_some e_v2).2]; simp [rowI]
        obtain ⟨v3, e_v3, h⟩ := ob h
        have e_v3a : boundOk (s4.length + 1) 24 = true := bnd_of (by have := (app_some e_v3).1; simpa using this) (by decide)
        have e_v3b : (List.map (rowL 1 rowI) s4) ++ [[.sl none 1 (List.map rowI v2)]] = List.map (rowL 1 rowI) v3 := by rw [(app_some e_v3).2]; simp [rowI, rowL]
        simp only [go_sem, hx4, hi4, hw4, e_v2a, e_v2b, e_v3a, e_v3b, hw3, hR3, hE3, hR4, hE4]
        exact ih4 _ h

def ref01_Positions (n : Nat) (a0 : Alphabet) (a1 : Tree) : Option ((List (List Int)) × Int) :=
  (ref01_Valid n a0 a1).bind fun v1 =>
  if v1 = true then
    (ref01_Places n a1).bind fun v2 =>
    some (v2, 0)
  else
    some (([] : List (List Int)), 1)
theorem spec28 (n : Nat) (a0 : Alphabet) (a1 : Tree) (r : (List (List Int)) × Int) (h : ref01_Positions n a0 a1 = some r) :
    call Tryd.prog T H (.fn 28) [.p (.agg [.sl none 1 (List.map rowI a0.Ranks)]), .p (.agg [iv a1.Sym, .sl none 2 (List.map row_Tree a1.Kids)])] [] = some (.ret (.p (.tup [.sl none 1 (List.map (rowL 1 rowI) r.1), iv r.2])), []) := by
  refine Sat.fn fun Q hQ => ?_
  unfold ref01_Positions at h
  rw [call28]
  conv => arg 1; arg 7; unfold S01.c28 Tryd.f28; simp only [Option.getD_some]
  obtain ⟨v1, e_v1, h⟩ := ob h
  have e_v1c : call Tryd.prog T H (.fn 18) [.p (.agg [.sl none 1 (List.map rowI a0.Ranks)]), .p (.agg [iv a1.Sym, .sl none 2 (List.map row_Tree a1.Kids)])] [] = some (.ret (.p (bv v1)), []) := spec18 n a0 a1 v1 e_v1
  by_cases c1 : v1 = true
  · have h := iteT h c1
    obtain ⟨v2, e_v2, h⟩ := ob h
    have e_v2c : call Tryd.prog T H (.fn 57) [.p (.agg [iv a1.Sym, .sl none 2 (List.map row_Tree a1.Kids)])] [] = some (.ret (.p (.sl none 1 (List.map (rowL 1 rowI) v2))), []) := spec57 n a1 v2 e_v2
    simp only [go_sem, e_v1c, c1, e_v2c]
    injection h with h; subst h
    exact Sat.ok hQ
  · have h := iteF h c1
    have c1 := eq_false_of_ne_true c1
    simp only [go_sem, e_v1c, c1]
    injection h with h; subst h
    exact Sat.ok hQ

def tree_sub (a0 : Tree) (a1 : List Int) : Option (Tree × Bool) :=
  rangeL a1 (a0.Sym, a0.Kids) (fun k1 i1 x1 (s1 : Int × (List Tree)) n1 =>
    if x1 < 0 then
      some ((Tree.mk 0 ([] : List Tree)), false)
    else
      if (s1.2.length : Int) ≤ x1 then
        some ((Tree.mk 0 ([] : List Tree)), false)
      else
        (idx s1.2 x1).bind fun v1 =>
        n1 (v1.Sym, v1.Kids)) fun s1 =>
  some ((Tree.mk s1.1 s1.2), true)
theorem spec58 (a0 : Tree) (a1 : List Int) (r : Tree × Bool) (h : tree_sub a0 a1 = some r) :
    call Tryd.prog T H (.fn 58) [.p (.agg [iv a0.Sym, .sl none 2 (List.map row_Tree a0.Kids)]), .p (.sl none 1 (List.map rowI a1))] [] = some (.ret (.p (.tup [.agg [iv r.1.Sym, .sl none 2 (List.map row_Tree r.1.Kids)], bv r.2])), []) := by
  refine Sat.fn fun Q hQ => ?_
  unfold tree_sub at h
  rw [call58]
  conv => arg 1; arg 7; unfold S01.c58 Tryd.f58; simp only [Option.getD_some]
  simp only [go_sem]
  refine run_rangeL (c := L58_0) (live := [2, 4, 8, 9, 10]) (by simp only [go_sem]) (M := fun i1 (s1 : Int × (List Tree)) => [(2, .ptr 0 0), (4, .ptr 1 0), (8, .p (.sl none 1 (List.map rowI a1))), (9, .p (iv (a1.length : Int))), (10, .p (iv (i1 : Int)))]) (Z := fun i1 (s1 : Int × (List Tree)) => [.cells [.p (iv s1.1), .p (.sl none 2 (List.map row_Tree s1.2))], .cells [.p (iv 0), .own 2 []]]) (N := fun (s1 : Int × (List Tree)) => ⟨[(2, .ptr 0 0), (4, .ptr 1 0)], [.cells [.p (iv s1.1), .p (.sl none 2 (List.map row_Tree s1.2))], .cells [.p (iv 0), .own 2 []]], [], none, false⟩) h rfl rfl (fun _ _ => rfl) ?_ ?_ ?_
  · intro s1 h
    try dsimp only at h ⊢
    simp only [go_sem]
    injection h with h; subst h
    exact Sat.ok hQ
  · intro K1 s1 hb1 he1
    try dsimp only
    conv => arg 1; arg 7; unfold L58_0 loopAt S01.c58 Tryd.f58; simp only [loopIn, Option.getD_some, if_true]
    simp only [go_sem, he1]
    exact hb1
  · intro K1 k1 i1 x1 s1 n1 hR1 hE1 hb1 hx1 hi1 hw1 ih1 h
    try dsimp only at h ⊢
    conv => arg 1; arg 7; unfold L58_0 loopAt S01.c58 Tryd.f58; simp only [loopIn, Option.getD_some, if_true]
    by_cases c1 : x1 < 0
    · have h := iteT h c1
      simp only [go_sem, hx1, hi1, hw1, c1, hR1, hE1]
      injection h with h; subst h
      exact Sat.ok hQ
    · have h := iteF h c1
      by_cases c2 : (s1.2.length : Int) ≤ x1
      · have h := iteT h c2
        simp only [go_sem, hx1, hi1, hw1, c1, c2, hR1, hE1]
        injection h with h; subst h
        exact Sat.ok hQ
      · have h := iteF h c2
        obtain ⟨v1, e_v1, h⟩ := ob h
        obtain ⟨e_v1a, e_v1b⟩ := idx_some e_v1
        simp only [go_sem, hx1, hi1, hw1, c1, c2, e_v1a, e_v1b, hR1, hE1]
        exact ih1 _ h

def tree_At (n : Nat) (a0 : Alphabet) (a1 : Tree) (a2 : List Int) : Option (Tree × Int) :=
  (tree_Valid n a0 a1).bind fun v1 =>
  if v1 = true then
    (tree_sub a1 a2).bind fun v2 =>
    if v2.2 = true then
      (tree_Copy n v2.1).bind fun v3 =>
      some (v3, 0)
    else
      some ((Tree.mk 0 ([] : List Tree)), 5)
  else
    some ((Tree.mk 0 ([] : List Tree)), 1)
theorem spec29 (n : Nat) (a0 : Alphabet) (a1 : Tree) (a2 : List Int) (r : Tree × Int) (h : tree_At n a0 a1 a2 = some r) :
    call Tryd.prog T H (.fn 29) [.p (.agg [.sl none 1 (List.map rowI a0.Ranks)]), .p (.agg [iv a1.Sym, .sl none 2 (List.map row_Tree a1.Kids)]), .p (.sl none 1 (List.map rowI a2))] [] = some (.ret (.p (.tup [.agg [iv r.1.Sym, .sl none 2 (List.map row_Tree r.1.Kids)], iv r.2])), []) := by
  refine Sat.fn fun Q hQ => ?_
  unfold tree_At at h
  rw [call29]
  conv => arg 1; arg 7; unfold S01.c29 Tryd.f29; simp only [Option.getD_some]
  obtain ⟨v1, e_v1, h⟩ := ob h
  have e_v1c : call Tryd.prog T H (.fn 17) [.p (.agg [.sl none 1 (List.map rowI a0.Ranks)]), .p (.agg [iv a1.Sym, .sl none 2 (List.map row_Tree a1.Kids)])] [] = some (.ret (.p (bv v1)), []) := spec17 n a0 a1 v1 e_v1
  by_cases c1 : v1 = true
  · have h := iteT h c1
    obtain ⟨v2, e_v2, h⟩ := ob h
    have e_v2c : call Tryd.prog T H (.fn 58) [.p (.agg [iv a1.Sym, .sl none 2 (List.map row_Tree a1.Kids)]), .p (.sl none 1 (List.map rowI a2))] [] = some (.ret (.p (.tup [.agg [iv v2.1.Sym, .sl none 2 (List.map row_Tree v2.1.Kids)], bv v2.2])), []) := spec58 a1 a2 v2 e_v2
    by_cases c2 : v2.2 = true
    · have h := iteT h c2
      obtain ⟨v3, e_v3, h⟩ := ob h
      have e_v3c : call Tryd.prog T H (.fn 59) [.p (.agg [iv v2.1.Sym, .sl none 2 (List.map row_Tree v2.1.Kids)])] [] = some (.ret (.p (.agg [iv v3.Sym, .sl none 2 (List.map row_Tree v3.Kids)])), []) := spec59 n v2.1 v3 e_v3
      simp only [go_sem, e_v1c, c1, e_v2c, c2, e_v3c]
      injection h with h; subst h
      exact Sat.ok hQ
    · have h := iteF h c2
      have c2 := eq_false_of_ne_true c2
      simp only [go_sem, e_v1c, c1, e_v2c, c2]
      injection h with h; subst h
      exact Sat.ok hQ
  · have h := iteF h c1
    have c1 := eq_false_of_ne_true c1
    simp only [go_sem, e_v1c, c1]
    injection h with h; subst h
    exact Sat.ok hQ

def ref01_Find (a0 : Tree) (a1 : List Int) : Option (Tree × Bool) :=
  rangeL a1 (a0.Sym, a0.Kids) (fun k1 i1 x1 (s1 : Int × (List Tree)) n1 =>
    if x1 < 0 then
      some ((Tree.mk 0 ([] : List Tree)), false)
    else
      if (s1.2.length : Int) ≤ x1 then
        some ((Tree.mk 0 ([] : List Tree)), false)
      else
        (idx s1.2 x1).bind fun v1 =>
        n1 (v1.Sym, v1.Kids)) fun s1 =>
  some ((Tree.mk s1.1 s1.2), true)
theorem spec60 (a0 : Tree) (a1 : List Int) (r : Tree × Bool) (h : ref01_Find a0 a1 = some r) :
    call Tryd.prog T H (.fn 60) [.p (.agg [iv a0.Sym, .sl none 2 (List.map row_Tree a0.Kids)]), .p (.sl none 1 (List.map rowI a1))] [] = some (.ret (.p (.tup [.agg [iv r.1.Sym, .sl none 2 (List.map row_Tree r.1.Kids)], bv r.2])), []) := by
  refine Sat.fn fun Q hQ => ?_
  unfold ref01_Find at h
  rw [call60]
  conv => arg 1; arg 7; unfold S01.c60 Tryd.f60; simp only [Option.getD_some]
  simp only [go_sem]
  refine run_rangeL (c := L60_0) (live := [2, 4, 8, 9, 10]) (by simp only [go_sem]) (M := fun i1 (s1 : Int × (List Tree)) => [(2, .ptr 0 0), (4, .ptr 1 0), (8, .p (.sl none 1 (List.map rowI a1))), (9, .p (iv (a1.length : Int))), (10, .p (iv (i1 : Int)))]) (Z := fun i1 (s1 : Int × (List Tree)) => [.cells [.p (iv s1.1), .p (.sl none 2 (List.map row_Tree s1.2))], .cells [.p (iv 0), .own 2 []]]) (N := fun (s1 : Int × (List Tree)) => ⟨[(2, .ptr 0 0), (4, .ptr 1 0)], [.cells [.p (iv s1.1), .p (.sl none 2 (List.map row_Tree s1.2))], .cells [.p (iv 0), .own 2 []]], [], none, false⟩) h rfl rfl (fun _ _ => rfl) ?_ ?_ ?_
  · intro s1 h
    try dsimp only at h ⊢
    simp only [go_sem]
    injection h with h; subst h
    exact Sat.ok hQ
  · intro K1 s1 hb1 he1
    try dsimp only
    conv => arg 1; arg 7; unfold L60_0 loopAt S01.c60 Tryd.f60; simp only [loopIn, Option.getD_some, if_true]
    simp only [go_sem, he1]
    exact hb1
  · intro K1 k1 i1 x1 s1 n1 hR1 hE1 hb1 hx1 hi1 hw1 ih1 h
    try dsimp only at h ⊢
    conv => arg 1; arg 7; unfold L60_0 loopAt S01.c60 Tryd.f60; simp only [loopIn, Option.getD_some, if_true]
    by_cases c1 : x1 < 0
    · have h := iteT h c1
      simp only [go_sem, hx1, hi1, hw1, c1, hR1, hE1]
      injection h with h; subst h
      exact Sat.ok hQ
    · have h := iteF h c1
      by_cases c2 : (s1.2.length : Int) ≤ x1
      · have h := iteT h c2
        simp only [go_sem, hx1, hi1, hw1, c1, c2, hR1, hE1]
        injection h with h; subst h
        exact Sat.ok hQ
      · have h := iteF h c2
        obtain ⟨v1, e_v1, h⟩ := ob h
        obtain ⟨e_v1a, e_v1b⟩ := idx_some e_v1
        simp only [go_sem, hx1, hi1, hw1, c1, c2, e_v1a, e_v1b, hR1, hE1]
        exact ih1 _ h

def ref01_At (n : Nat) (a0 : Alphabet) (a1 : Tree) (a2 : List Int) : Option (Tree × Int) :=
  (ref01_Valid n a0 a1).bind fun v1 =>
  if v1 = true then
    (ref01_Find a1 a2).bind fun v2 =>
    if v2.2 = true then
      some (v2.1, 0)
    else
      some ((Tree.mk 0 ([] : List Tree)), 5)
  else
    some ((Tree.mk 0 ([] : List Tree)), 1)
theorem spec30 (n : Nat) (a0 : Alphabet) (a1 : Tree) (a2 : List Int) (r : Tree × Int) (h : ref01_At n a0 a1 a2 = some r) :
    call Tryd.prog T H (.fn 30) [.p (.agg [.sl none 1 (List.map rowI a0.Ranks)]), .p (.agg [iv a1.Sym, .sl none 2 (List.map row_Tree a1.Kids)]), .p (.sl none 1 (List.map rowI a2))] [] = some (.ret (.p (.tup [.agg [iv r.1.Sym, .sl none 2 (List.map row_Tree r.1.Kids)], iv r.2])), []) := by
  refine Sat.fn fun Q hQ => ?_
  unfold ref01_At at h
  rw [call30]
  conv => arg 1; arg 7; unfold S01.c30 Tryd.f30; simp only [Option.getD_some]
  obtain ⟨v1, e_v1, h⟩ := ob h
  have e_v1c : call Tryd.prog T H (.fn 18) [.p (.agg [.sl none 1 (List.map rowI a0.Ranks)]), .p (.agg [iv a1.Sym, .sl none 2 (List.map row_Tree a1.Kids)])] [] = some (.ret (.p (bv v1)), []) := spec18 n a0 a1 v1 e_v1
  by_cases c1 : v1 = true
  · have h := iteT h c1
    obtain ⟨v2, e_v2, h⟩ := ob h
    have e_v2c : call Tryd.prog T H (.fn 60) [.p (.agg [iv a1.Sym, .sl none 2 (List.map row_Tree a1.Kids)]), .p (.sl none 1 (List.map rowI a2))] [] = some (.ret (.p (.tup [.agg [iv v2.1.Sym, .sl none 2 (List.map row_Tree v2.1.Kids)], bv v2.2])), []) := spec60 a1 a2 v2 e_v2
    by_cases c2 : v2.2 = true
    · have h := iteT h c2
      simp only [go_sem, e_v1c, c1, e_v2c, c2]
      injection h with h; subst h
      exact Sat.ok hQ
    · have h := iteF h c2
      have c2 := eq_false_of_ne_true c2
      simp only [go_sem, e_v1c, c1, e_v2c, c2]
      injection h with h; subst h
      exact Sat.ok hQ
  · have h := iteF h c1
    have c1 := eq_false_of_ne_true c1
    simp only [go_sem, e_v1c, c1]
    injection h with h; subst h
    exact Sat.ok hQ

def tree_put : Nat → Tree → (List Int) → Tree → Option Tree
  | 0, _, _, _ => none
  | n + 1, a0, a1, a2 =>
    if (a1.length : Int) = 0 then
      (tree_Copy n a2).bind fun v1 =>
      some v1
    else
      rangeL a0.Kids ([] : List Tree) (fun k1 i1 x1 (s1 : (List Tree)) n1 =>
        (a1[0]?).bind fun v2 =>
        if (i1 : Int) = v2 then
          (slcF a1 1).bind fun v3 =>
          (tree_put n x1 v3 a2).bind fun v4 =>
          (app 32 s1 [v4]).bind fun v5 =>
          n1 v5
        else
          (tree_Copy n x1).bind fun v6 =>
          (app 32 s1 [v6]).bind fun v7 =>
          n1 v7) fun s1 =>
      some (Tree.mk a0.Sym s1)
theorem spec61 : ∀ (n : Nat), (∀ (a0 : Tree) (a1 : List Int) (a2 : Tree) (r : Tree), tree_put n a0 a1 a2 = some r →
    call Tryd.prog T H (.fn 61) [.p (.agg [iv a0.Sym, .sl none 2 (List.map row_Tree a0.Kids)]), .p (.sl none 1 (List.map rowI a1)), .p (.agg [iv a2.Sym, .sl none 2 (List.map row_Tree a2.Kids)])] [] = some (.ret (.p (.agg [iv r.Sym, .sl none 2 (List.map row_Tree r.Kids)])), [])) := by
  intro n
  induction n with
  | zero => intro a0 a1 a2 r h; cases h
  | succ n ih =>
    intro a0 a1 a2 r h
    refine Sat.fn fun Q hQ => ?_
    rw [tree_put] at h
    rw [call61]
    conv => arg 1; arg 7; unfold S01.c61 Tryd.f61; simp only [Option.getD_some]
    by_cases c1 : (a1.length : Int) = 0
    · have h := iteT h c1
      have c1b : ((a1.length : Int) == 0) = true := beqT c1
      obtain ⟨v1, e_v1, h⟩ := ob h
      have e_v1c : call Tryd.prog T H (.fn 59) [.p (.agg [iv a2.Sym, .sl none 2 (List.map row_Tree a2.Kids)])] [] = some (.ret (.p (.agg [iv v1.Sym, .sl none 2 (List.map row_Tree v1.Kids)])), []) := spec59 n a2 v1 e_v1
      simp only [go_sem, c1b, e_v1c]
      injection h with h; subst h
      exact Sat.ok hQ
    · have h := iteF h c1
      have c1b : ((a1.length : Int) == 0) = false := beqF c1
      simp only [go_sem, c1b]
      refine run_rangeL (c := L61_0) (live := [1, 5, 6, 7, 19, 20, 21]) (by simp only [go_sem]) (M := fun i1 (s1 : (List Tree)) => [(1, .p (.sl none 1 (List.map rowI a1))), (5, .ptr 1 0), (6, .ptr 2 0), (7, .ptr 3 0), (19, .p (.sl none 2 (List.map row_Tree a0.Kids))), (20, .p (iv (a0.Kids.length : Int))), (21, .p (iv (i1 : Int)))]) (Z := fun i1 (s1 : (List Tree)) => [.cells [.p (iv a0.Sym), .p (.sl none 2 (List.map row_Tree a0.Kids))], .cells [.p (iv a2.Sym), .p (.sl none 2 (List.map row_Tree a2.Kids))], .cells [.p (iv 0), .own 2 []], .cells [.p (iv a0.Sym), .own 2 (List.map row_Tree s1)]]) (N := fun (s1 : (List Tree)) => ⟨[(6, .ptr 2 0), (7, .ptr 3 0)], [.cells [.p (iv a0.Sym), .p (.sl none 2 (List.map row_Tree a0.Kids))], .cells [.p (iv a2.Sym), .p (.sl none 2 (List.map row_Tree a2.Kids))], .cells [.p (iv 0), .own 2 []], .cells [.p (iv a0.Sym), .own 2 (List.map row_Tree s1)]], [], none, false⟩) h rfl rfl (fun _ _ => rfl) ?_ ?_ ?_
      · intro s1 h
        try dsimp only at h ⊢
        simp only [go_sem]
        injection h with h; subst h
        exact Sat.ok hQ
      · intro K1 s1 hb1 he1
        try dsimp only
        conv => arg 1; arg 7; unfold L61_0 loopAt S01.c61 Tryd.f61; simp only [loopIn, Option.getD_some, if_true]
        simp only [go_sem, he1]
        exact hb1
      · intro K1 k1 i1 x1 s1 n1 hR1 hE1 hb1 hx1 hi1 hw1 ih1 h
        try dsimp only at h ⊢
        conv => arg 1; arg 7; unfold L61_0 loopAt S01.c61 Tryd.f61; simp only [loopIn, Option.getD_some, if_true]
        obtain ⟨v2, e_v2, h⟩ := ob h
        by_cases c2 : (i1 : Int) = v2
        · have h := iteT h c2
          have c2b : ((i1 : Int) == v2) = true := beqT c2
          obtain ⟨v3, e_v3, h⟩ := ob h
          obtain ⟨e_v31, e_v32, e_v33, e_v34⟩ := slcF_some e_v3
          simp only [Int.reduceToNat] at e_v32
          simp only [Int.reduceToNat] at e_v34
          obtain ⟨v4, e_v4, h⟩ := ob h
          have e_v4c : call Tryd.prog T H (.fn 61) [.p (.agg [iv x1.Sym, .sl none 2 (List.map row_Tree x1.Kids)]), .p (.sl none 1 (List.map rowI v3)), .p (.agg [iv a2.Sym, .sl none 2 (List.map row_Tree a2.Kids)])] [] = some (.ret (.p (.agg [iv v4.Sym, .sl none 2 (List.map row_Tree v4.Kids)])), []) := ih x1 v3 a2 v4 e_v4
          obtain ⟨v5, e_v5, h⟩ := ob h
          have e_v5a : boundOk (s1.length + 1) 32 = true := bnd_of (by have := (app_some e_v5).1; simpa using this) (by decide)
          have e_v5b : (List.map row_Tree s1) ++ [[iv v4.Sym, .sl none 2 (List.map row_Tree v4.Kids)]] = List.map row_Tree v5 := by rw [(app_some e_v5).2]; simp [row_Tree_eq]
          simp only [go_sem, hx1, hi1, hw1, e_v2, c2b, e_v32, ← e_v34, e_v4c, e_v5a, e_v5b, hR1, hE1]
          exact ih1 _ h
        · have h := iteF h c2
          have c2b : ((i1 : Int) == v2) = false := beqF c2
          obtain ⟨v6, e_v6, h⟩ := ob h
          have e_v6c : call Tryd.prog T H (.fn 59) [.p (.agg [iv x1.Sym, .sl none 2 (List.map row_Tree x1.Kids)])] [] = some (.ret (.p (.agg [iv v6.Sym, .sl none 2 (List.map row_Tree v6.Kids)])), []) := spec59 n x1 v6 e_v6
          obtain ⟨v7, e_v7, h⟩ := ob h
          have e_v7a : boundOk (s1.length + 1) 32 = true := bnd_of (by have := (app_some e_v7).1; simpa using this) (by decide)
          have e_v7b : (List.map row_Tree s1) ++ [[iv v6.Sym, .sl none 2 (List.map row_Tree v6.Kids)]] = List.map row_Tree v7 := by rw [(app_some e_v7).2]; simp [row_Tree_eq]
          simp only [go_sem, hx1, hi1, hw1, e_v2, c2b, e_v6c, e_v7a, e_v7b, hR1, hE1]
          exact ih1 _ h

def tree_Put (n : Nat) (a0 : Alphabet) (a1 : Tree) (a2 : List Int) (a3 : Tree) : Option (Tree × Int) :=
  (tree_Valid n a0 a1).bind fun v1 =>
  if v1 = true then
    (tree_Valid n a0 a3).bind fun v2 =>
    if v2 = true then
      (tree_sub a1 a2).bind fun v3 =>
      if v3.2 = true then
        (tree_put n a1 a2 a3).bind fun v4 =>
        (tree_Size n v4).bind fun v5 =>
        if 300 < v5 then
          some ((Tree.mk 0 ([] : List Tree)), 3)
        else
          some (v4, 0)
      else
        some ((Tree.mk 0 ([] : List Tree)), 5)
    else
      some ((Tree.mk 0 ([] : List Tree)), 1)
  else
    some ((Tree.mk 0 ([] : List Tree)), 1)
theorem spec31 (n : Nat) (a0 : Alphabet) (a1 : Tree) (a2 : List Int) (a3 : Tree) (r : Tree × Int) (h : tree_Put n a0 a1 a2 a3 = some r) :
    call Tryd.prog T H (.fn 31) [.p (.agg [.sl none 1 (List.map rowI a0.Ranks)]), .p (.agg [iv a1.Sym, .sl none 2 (List.map row_Tree a1.Kids)]), .p (.sl none 1 (List.map rowI a2)), .p (.agg [iv a3.Sym, .sl none 2 (List.map row_Tree a3.Kids)])] [] = some (.ret (.p (.tup [.agg [iv r.1.Sym, .sl none 2 (List.map row_Tree r.1.Kids)], iv r.2])), []) := by
  refine Sat.fn fun Q hQ => ?_
  unfold tree_Put at h
  rw [call31]
  conv => arg 1; arg 7; unfold S01.c31 Tryd.f31; simp only [Option.getD_some]
  obtain ⟨v1, e_v1, h⟩ := ob h
  have e_v1c : call Tryd.prog T H (.fn 17) [.p (.agg [.sl none 1 (List.map rowI a0.Ranks)]), .p (.agg [iv a1.Sym, .sl none 2 (List.map row_Tree a1.Kids)])] [] = some (.ret (.p (bv v1)), []) := spec17 n a0 a1 v1 e_v1
  by_cases c1 : v1 = true
  · have h := iteT h c1
    obtain ⟨v2, e_v2, h⟩ := ob h
    have e_v2c : call Tryd.prog T H (.fn 17) [.p (.agg [.sl none 1 (List.map rowI a0.Ranks)]), .p (.agg [iv a3.Sym, .sl none 2 (List.map row_Tree a3.Kids)])] [] = some (.ret (.p (bv v2)), []) := spec17 n a0 a3 v2 e_v2
    by_cases c2 : v2 = true
    · have h := iteT h c2
      obtain ⟨v3, e_v3, h⟩ := ob h
      have e_v3c : call Tryd.prog T H (.fn 58) [.p (.agg [iv a1.Sym, .sl none 2 (List.map row_Tree a1.Kids)]), .p (.sl none 1 (List.map rowI a2))] [] = some (.ret (.p (.tup [.agg [iv v3.1.Sym, .sl none 2 (List.map row_Tree v3.1.Kids)], bv v3.2])), []) := spec58 a1 a2 v3 e_v3
      by_cases c3 : v3.2 = true
      · have h := iteT h c3
        obtain ⟨v4, e_v4, h⟩ := ob h
        have e_v4c : call Tryd.prog T H (.fn 61) [.p (.agg [iv a1.Sym, .sl none 2 (List.map row_Tree a1.Kids)]), .p (.sl none 1 (List.map rowI a2)), .p (.agg [iv a3.Sym, .sl none 2 (List.map row_Tree a3.Kids)])] [] = some (.ret (.p (.agg [iv v4.Sym, .sl none 2 (List.map row_Tree v4.Kids)])), []) := spec61 n a1 a2 a3 v4 e_v4
        obtain ⟨v5, e_v5, h⟩ := ob h
        have e_v5c : call Tryd.prog T H (.fn 19) [.p (.agg [iv v4.Sym, .sl none 2 (List.map row_Tree v4.Kids)])] [] = some (.ret (.p (iv v5)), []) := spec19 n v4 v5 e_v5
        by_cases c4 : 300 < v5
        · have h := iteT h c4
          simp only [go_sem, e_v1c, c1, e_v2c, c2, e_v3c, c3, e_v4c, e_v5c, c4]
          injection h with h; subst h
          exact Sat.ok hQ
        · have h := iteF h c4
          simp only [go_sem, e_v1c, c1, e_v2c, c2, e_v3c, c3, e_v4c, e_v5c, c4]
          injection h with h; subst h
          exact Sat.ok hQ
      · have h := iteF h c3
        have c3 := eq_false_of_ne_true c3
        simp only [go_sem, e_v1c, c1, e_v2c, c2, e_v3c, c3]
        injection h with h; subst h
        exact Sat.ok hQ
    · have h := iteF h c2
      have c2 := eq_false_of_ne_true c2
      simp only [go_sem, e_v1c, c1, e_v2c, c2]
      injection h with h; subst h
      exact Sat.ok hQ
  · have h := iteF h c1
    have c1 := eq_false_of_ne_true c1
    simp only [go_sem, e_v1c, c1]
    injection h with h; subst h
    exact Sat.ok hQ

def slices_Index_Lstring_string (a0 : List Str) (a1 : Str) : Option Int :=
  rangeL a0 () (fun k1 i1 x1 (s1 : Unit) n1 =>
    if a1 = x1 then
      some (i1 : Int)
    else
      n1 ()) fun s1 =>
  some (-1)
theorem spec92 (a0 : List Str) (a1 : Str) (r : Int) (h : slices_Index_Lstring_string a0 a1 = some r) :
    call Tryd.prog T H (.fn 92) [.p (.sl none 1 (List.map rowS a0)), .p (.lit (.string (bs a1)))] [] = some (.ret (.p (iv r)), []) := by
  refine Sat.fn fun Q hQ => ?_
  unfold slices_Index_Lstring_string at h
  rw [call92]
  conv => arg 1; arg 7; unfold S01.c92 Tryd.f92; simp only [Option.getD_some]
  simp only [go_sem]
  refine run_rangeL (c := L92_0) (live := [0, 1, 7, 8]) (by simp only [go_sem]) (M := fun i1 (s1 : Unit) => [(0, .p (.sl none 1 (List.map rowS a0))), (1, .p (.lit (.string (bs a1)))), (7, .p (iv (a0.length : Int))), (8, .p (iv (i1 : Int)))]) (Z := fun i1 (s1 : Unit) => []) (N := fun (s1 : Unit) => ⟨[], [], [], none, false⟩) h rfl rfl (fun _ _ => rfl) ?_ ?_ ?_
  · intro s1 h
    try dsimp only at h ⊢
    simp only [go_sem]
    injection h with h; subst h
    exact Sat.ok hQ
  · intro K1 s1 hb1 he1
    try dsimp only
    conv => arg 1; arg 7; unfold L92_0 loopAt S01.c92 Tryd.f92; simp only [loopIn, Option.getD_some, if_true]
    simp only [go_sem, he1]
    exact hb1
  · intro K1 k1 i1 x1 s1 n1 hR1 hE1 hb1 hx1 hi1 hw1 ih1 h
    try dsimp only at h ⊢
    conv => arg 1; arg 7; unfold L92_0 loopAt S01.c92 Tryd.f92; simp only [loopIn, Option.getD_some, if_true]
    by_cases c1 : a1 = x1
    · have h := iteT h c1
      have c1b : (a1 == x1) = true := beqT c1
      simp only [go_sem, hx1, hi1, hw1, c1b, hR1, hE1]
      injection h with h; subst h
      exact Sat.ok hQ
    · have h := iteF h c1
      have c1b : (a1 == x1) = false := beqF c1
      simp only [go_sem, hx1, hi1, hw1, c1b, hR1, hE1]
      exact ih1 _ h

def slices_Contains_Lstring_string (a0 : List Str) (a1 : Str) : Option Bool :=
  (slices_Index_Lstring_string a0 a1).bind fun v1 =>
  some (decide (0 ≤ v1))
theorem spec84 (a0 : List Str) (a1 : Str) (r : Bool) (h : slices_Contains_Lstring_string a0 a1 = some r) :
    call Tryd.prog T H (.fn 84) [.p (.sl none 1 (List.map rowS a0)), .p (.lit (.string (bs a1)))] [] = some (.ret (.p (bv r)), []) := by
  refine Sat.fn fun Q hQ => ?_
  unfold slices_Contains_Lstring_string at h
  rw [call84]
  conv => arg 1; arg 7; unfold S01.c84 Tryd.f84; simp only [Option.getD_some]
  obtain ⟨v1, e_v1, h⟩ := ob h
  have e_v1c : call Tryd.prog T H (.fn 92) [.p (.sl none 1 (List.map rowS a0)), .p (.lit (.string (bs a1)))] [] = some (.ret (.p (iv v1)), []) := spec92 a0 a1 v1 e_v1
  simp only [go_sem, e_v1c]
  injection h with h; subst h
  exact Sat.ok hQ

def tree_Names (a0 : List Str) (a1 : Int) : Option Bool :=
  if (a0.length : Int) = a1 then
    rangeL a0 () (fun k1 i1 x1 (s1 : Unit) n1 =>
      (tree_Name x1).bind fun v1 =>
      if v1 = true then
        (slcT a0 (i1 : Int)).bind fun v2 =>
        (slices_Contains_Lstring_string v2 x1).bind fun v3 =>
        if v3 = true then
          some false
        else
          n1 ()
      else
        some false) fun s1 =>
    some true
  else
    some false
theorem spec64 (a0 : List Str) (a1 : Int) (r : Bool) (h : tree_Names a0 a1 = some r) :
    call Tryd.prog T H (.fn 64) [.p (.sl none 1 (List.map rowS a0)), .p (iv a1)] [] = some (.ret (.p (bv r)), []) := by
  refine Sat.fn fun Q hQ => ?_
  unfold tree_Names at h
  rw [call64]
  conv => arg 1; arg 7; unfold S01.c64 Tryd.f64; simp only [Option.getD_some]
  by_cases c1 : (a0.length : Int) = a1
  · have h := iteT h c1
    have c1b : ((a0.length : Int) != a1) = false := bneF c1
    simp only [go_sem, c1b]
    refine run_rangeL (c := L64_0) (live := [0, 11, 12, 13]) (by simp only [go_sem]) (M := fun i1 (s1 : Unit) => [(0, .p (.sl none 1 (List.map rowS a0))), (11, .p (.sl none 1 (List.map rowS a0))), (12, .p (iv (a0.length : Int))), (13, .p (iv (i1 : Int)))]) (Z := fun i1 (s1 : Unit) => []) (N := fun (s1 : Unit) => ⟨[], [], [], none, false⟩) h rfl rfl (fun _ _ => rfl) ?_ ?_ ?_
    · intro s1 h
      try dsimp only at h ⊢
      simp only [go_sem]
      injection h with h; subst h
      exact Sat.ok hQ
    · intro K1 s1 hb1 he1
      try dsimp only
      conv => arg 1; arg 7; unfold L64_0 loopAt S01.c64 Tryd.f64; simp only [loopIn, Option.getD_some, if_true]
      simp only [go_sem, he1]
      exact hb1
    · intro K1 k1 i1 x1 s1 n1 hR1 hE1 hb1 hx1 hi1 hw1 ih1 h
      try dsimp only at h ⊢
      conv => arg 1; arg 7; unfold L64_0 loopAt S01.c64 Tryd.f64; simp only [loopIn, Option.getD_some, if_true]
      obtain ⟨v1, e_v1, h⟩ := ob h
      have e_v1c : call Tryd.prog T H (.fn 25) [.p (.lit (.string (bs x1)))] [] = some (.ret (.p (bv v1)), []) := spec25 x1 v1 e_v1
      by_cases c2 : v1 = true
      · have h := iteT h c2
        obtain ⟨v2, e_v2, h⟩ := ob h
        obtain ⟨e_v21, e_v22, e_v23, e_v24⟩ := slcT_some e_v2
        try simp only [Int.toNat_natCast] at e_v21
        try simp only [Int.toNat_natCast] at e_v23
        try simp only [Int.toNat_natCast] at e_v24
        obtain ⟨v3, e_v3, h⟩ := ob h
        have e_v3c : call Tryd.prog T H (.fn 84) [.p (.sl none 1 (List.map rowS v2)), .p (.lit (.string (bs x1)))] [] = some (.ret (.p (bv v3)), []) := spec84 v2 x1 v3 e_v3
        by_cases c3 : v3 = true
        · have h := iteT h c3
          simp only [go_sem, hx1, hi1, hw1, e_v1c, c2, e_v21, e_v23, ← e_v24, e_v3c, c3, hR1, hE1]
          injection h with h; subst h
          exact Sat.ok hQ
        · have h := iteF h c3
          have c3 := eq_false_of_ne_true c3
          simp only [go_sem, hx1, hi1, hw1, e_v1c, c2, e_v21, e_v23, ← e_v24, e_v3c, c3, hR1, hE1]
          exact ih1 _ h
      · have h := iteF h c2
        have c2 := eq_false_of_ne_true c2
        simp only [go_sem, hx1, hi1, hw1, e_v1c, c2, hR1, hE1]
        injection h with h; subst h
        exact Sat.ok hQ
  · have h := iteF h c1
    have c1b : ((a0.length : Int) != a1) = true := bneT c1
    simp only [go_sem, c1b]
    injection h with h; subst h
    exact Sat.ok hQ

def tree_write : Nat → (List Int) → (List Str) → Tree → Option (List Int)
  | 0, _, _, _ => none
  | n + 1, a0, a1, a2 =>
    (idx a1 a2.Sym).bind fun v1 =>
    (app 1 a0 (ofStr v1)).bind fun v2 =>
    rangeL a2.Kids v2 (fun k1 i1 x1 (s1 : (List Int)) n1 =>
      if (i1 : Int) = 0 then
        (app 1 s1 [40]).bind fun v4 =>
        (tree_write n v4 a1 x1).bind fun v5 =>
        n1 v5
      else
        (app 1 s1 (ofStr ([44, 32] : Str))).bind fun v6 =>
        (tree_write n v6 a1 x1).bind fun v7 =>
        n1 v7) fun s1 =>
    if 0 < (a2.Kids.length : Int) then
      (app 1 s1 [41]).bind fun v3 =>
      some v3
    else
      some s1
theorem spec65 : ∀ (n : Nat), (∀ (a0 : List Int) (a1 : List Str) (a2 : Tree) (r : List Int), tree_write n a0 a1 a2 = some r →
    call Tryd.prog T H (.fn 65) [.own 1 (List.map rowU8 a0), .p (.sl none 1 (List.map rowS a1)), .p (.agg [iv a2.Sym, .sl none 2 (List.map row_Tree a2.Kids)])] [] = some (.ret (.own 1 (List.map rowU8 r)), [])) := by
  intro n
  induction n with
  | zero => intro a0 a1 a2 r h; cases h
  | succ n ih =>
    intro a0 a1 a2 r h
    refine Sat.fn fun Q hQ => ?_
    rw [tree_write] at h
    rw [call65]
    conv => arg 1; arg 7; unfold S01.c65 Tryd.f65; simp only [Option.getD_some]
    obtain ⟨v1, e_v1, h⟩ := ob h
    obtain ⟨e_v1a, e_v1b⟩ := idx_some e_v1
    obtain ⟨v2, e_v2, h⟩ := ob h
    have e_v2a : boundOk (a0.length + (ofStr v1).length) 1 = true := bnd_of (by have := (app_some e_v2).1; simpa using this) (by decide)
    have e_v2b : (List.map rowU8 a0) ++ (List.map rowU8 (ofStr v1)) = List.map rowU8 v2 := by rw [(app_some e_v2).2]; simp [rowU8]
    have e_v2b : List.map rowU8 (a0 ++ (ofStr v1)) = List.map rowU8 v2 := by rw [(app_some e_v2).2]
    simp only [go_sem, e_v1a, e_v1b, e_v2a, e_v2b]
    refine run_rangeL (c := L65_0) (live := [0, 1, 5, 17, 18, 19]) (by simp only [go_sem]) (M := fun i1 (s1 : (List Int)) => [(0, .own 1 (List.map rowU8 s1)), (1, .p (.sl none 1 (List.map rowS a1))), (5, .ptr 0 0), (17, .p (.sl none 2 (List.map row_Tree a2.Kids))), (18, .p (iv (a2.Kids.length : Int))), (19, .p (iv (i1 : Int)))]) (Z := fun i1 (s1 : (List Int)) => [.cells [.p (iv a2.Sym), .p (.sl none 2 (List.map row_Tree a2.Kids))]]) (N := fun (s1 : (List Int)) => ⟨[(0, .own 1 (List.map rowU8 s1)), (5, .ptr 0 0)], [.cells [.p (iv a2.Sym), .p (.sl none 2 (List.map row_Tree a2.Kids))]], [], none, false⟩) h rfl rfl (fun _ _ => rfl) ?_ ?_ ?_
    · intro s1 h
      try dsimp only at h ⊢
      by_cases c1 : 0 < (a2.Kids.length : Int)
      · have h := iteT h c1
        obtain ⟨v3, e_v3, h⟩ := ob h
        have e_v3a : boundOk (s1.length + 1) 1 = true := bnd_of (by have := (app_some e_v3).1; simpa using this) (by decide)
        have e_v3b : (List.map rowU8 s1) ++ [[.lit (.int .u8 41)]] = List.map rowU8 v3 := by rw [(app_some e_v3).2]; simp [rowU8]
        simp only [go_sem, c1, e_v3a, e_v3b]
        injection h with h; subst h
        exact Sat.ok hQ
      · have h := iteF h c1
        simp only [go_sem, c1]
        injection h with h; subst h
        exact Sat.ok hQ
    · intro K1 s1 hb1 he1
      try dsimp only
      conv => arg 1; arg 7; unfold L65_0 loopAt S01.c65 Tryd.f65; simp only [loopIn, Option.getD_some, if_true]
      simp only [go_sem, he1]
      exact hb1
    · intro K1 k1 i1 x1 s1 n1 hR1 hE1 hb1 hx1 hi1 hw1 ih1 h
      try dsimp only at h ⊢
      conv => arg 1; arg 7; unfold L65_0 loopAt S01.c65 Tryd.f65; simp only [loopIn, Option.getD_some, if_true]
      by_cases c2 : (i1 : Int) = 0
      · have h := iteT h c2
        have c2b : ((i1 : Int) == 0) = true := beqT c2
        obtain ⟨v4, e_v4, h⟩ := ob h
        have e_v4a : boundOk (s1.length + 1) 1 = true := bnd_of (by have := (app_some e_v4).1; simpa using this) (by decide)
        have e_v4b : (List.map rowU8 s1) ++ [[.lit (.int .u8 40)]] = List.map rowU8 v4 := by rw [(app_some e_v4).2]; simp [rowU8]
        obtain ⟨v5, e_v5, h⟩ := ob h
        have e_v5c : call Tryd.prog T H (.fn 65) [.own 1 (List.map rowU8 v4), .p (.sl none 1 (List.map rowS a1)), .p (.agg [iv x1.Sym, .sl none 2 (List.map row_Tree x1.Kids)])] [] = some (.ret (.own 1 (List.map rowU8 v5)), []) := ih v4 a1 x1 v5 e_v5
        simp only [go_sem, hx1, hi1, hw1, c2b, e_v4a, e_v4b, e_v5c, hR1, hE1]
        exact ih1 _ h
      · have h := iteF h c2
        have c2b : ((i1 : Int) == 0) = false := beqF c2
        obtain ⟨v6, e_v6, h⟩ := ob h
        have e_v6a : boundOk (s1.length + (ofStr ([44, 32] : Str)).length) 1 = true := bnd_of (by have := (app_some e_v6).1; simpa using this) (by decide)
        have e_v6b : (List.map rowU8 s1) ++ (List.map rowU8 (ofStr ([44, 32] : Str))) = List.map rowU8 v6 := by rw [(app_some e_v6).2]; simp [rowU8]
        have e_v6b : List.map rowU8 (s1 ++ (ofStr ([44, 32] : Str))) = List.map rowU8 v6 := by rw [(app_some e_v6).2]
        obtain ⟨v7, e_v7, h⟩ := ob h
        have e_v7c : call Tryd.prog T H (.fn 65) [.own 1 (List.map rowU8 v6), .p (.sl none 1 (List.map rowS a1)), .p (.agg [iv x1.Sym, .sl none 2 (List.map row_Tree x1.Kids)])] [] = some (.ret (.own 1 (List.map rowU8 v7)), []) := ih v6 a1 x1 v7 e_v7
        simp only [go_sem, hx1, hi1, hw1, c2b, e_v6a, e_v6b, e_v7c, hR1, hE1]
        exact ih1 _ h

def ref01_Place (a0 : List Str) (a1 : Str) : Option Int :=
  rangeL a0 () (fun k1 i1 x1 (s1 : Unit) n1 =>
    if x1 = a1 then
      some (i1 : Int)
    else
      n1 ()) fun s1 =>
  some (-1)
theorem spec85 (a0 : List Str) (a1 : Str) (r : Int) (h : ref01_Place a0 a1 = some r) :
    call Tryd.prog T H (.fn 85) [.p (.sl none 1 (List.map rowS a0)), .p (.lit (.string (bs a1)))] [] = some (.ret (.p (iv r)), []) := by
  refine Sat.fn fun Q hQ => ?_
  unfold ref01_Place at h
  rw [call85]
  conv => arg 1; arg 7; unfold S01.c85 Tryd.f85; simp only [Option.getD_some]
  simp only [go_sem]
  refine run_rangeL (c := L85_0) (live := [1, 7, 8, 9]) (by simp only [go_sem]) (M := fun i1 (s1 : Unit) => [(1, .p (.lit (.string (bs a1)))), (7, .p (.sl none 1 (List.map rowS a0))), (8, .p (iv (a0.length : Int))), (9, .p (iv (i1 : Int)))]) (Z := fun i1 (s1 : Unit) => []) (N := fun (s1 : Unit) => ⟨[], [], [], none, false⟩) h rfl rfl (fun _ _ => rfl) ?_ ?_ ?_
  · intro s1 h
    try dsimp only at h ⊢
    simp only [go_sem]
    injection h with h; subst h
    exact Sat.ok hQ
  · intro K1 s1 hb1 he1
    try dsimp only
    conv => arg 1; arg 7; unfold L85_0 loopAt S01.c85 Tryd.f85; simp only [loopIn, Option.getD_some, if_true]
    simp only [go_sem, he1]
    exact hb1
  · intro K1 k1 i1 x1 s1 n1 hR1 hE1 hb1 hx1 hi1 hw1 ih1 h
    try dsimp only at h ⊢
    conv => arg 1; arg 7; unfold L85_0 loopAt S01.c85 Tryd.f85; simp only [loopIn, Option.getD_some, if_true]
    by_cases c1 : x1 = a1
    · have h := iteT h c1
      have c1b : (x1 == a1) = true := beqT c1
      simp only [go_sem, hx1, hi1, hw1, c1b, hR1, hE1]
      injection h with h; subst h
      exact Sat.ok hQ
    · have h := iteF h c1
      have c1b : (x1 == a1) = false := beqF c1
      simp only [go_sem, hx1, hi1, hw1, c1b, hR1, hE1]
      exact ih1 _ h

def ref01_Names (n : Nat) (a0 : List Str) (a1 : Int) : Option Bool :=
  if (a0.length : Int) = a1 then
    rangeL a0 () (fun k1 i1 x1 (s1 : Unit) n1 =>
      (ref01_Name n x1).bind fun v1 =>
      if v1 = true then
        (slcT a0 (i1 : Int)).bind fun v2 =>
        (ref01_Place v2 x1).bind fun v3 =>
        if 0 ≤ v3 then
          some false
        else
          n1 ()
      else
        some false) fun s1 =>
    some true
  else
    some false
theorem spec66 (n : Nat) (a0 : List Str) (a1 : Int) (r : Bool) (h : ref01_Names n a0 a1 = some r) :
    call Tryd.prog T H (.fn 66) [.p (.sl none 1 (List.map rowS a0)), .p (iv a1)] [] = some (.ret (.p (bv r)), []) := by
  refine Sat.fn fun Q hQ => ?_
  unfold ref01_Names at h
  rw [call66]
  conv => arg 1; arg 7; unfold S01.c66 Tryd.f66; simp only [Option.getD_some]
  by_cases c1 : (a0.length : Int) = a1
  · have h := iteT h c1
    have c1b : ((a0.length : Int) != a1) = false := bneF c1
    simp only [go_sem, c1b]
    refine run_rangeL (c := L66_0) (live := [0, 11, 12, 13]) (by simp only [go_sem]) (M := fun i1 (s1 : Unit) => [(0, .p (.sl none 1 (List.map rowS a0))), (11, .p (.sl none 1 (List.map rowS a0))), (12, .p (iv (a0.length : Int))), (13, .p (iv (i1 : Int)))]) (Z := fun i1 (s1 : Unit) => []) (N := fun (s1 : Unit) => ⟨[], [], [], none, false⟩) h rfl rfl (fun _ _ => rfl) ?_ ?_ ?_
    · intro s1 h
      try dsimp only at h ⊢
      simp only [go_sem]
      injection h with h; subst h
      exact Sat.ok hQ
    · intro K1 s1 hb1 he1
      try dsimp only
      conv => arg 1; arg 7; unfold L66_0 loopAt S01.c66 Tryd.f66; simp only [loopIn, Option.getD_some, if_true]
      simp only [go_sem, he1]
      exact hb1
    · intro K1 k1 i1 x1 s1 n1 hR1 hE1 hb1 hx1 hi1 hw1 ih1 h
      try dsimp only at h ⊢
      conv => arg 1; arg 7; unfold L66_0 loopAt S01.c66 Tryd.f66; simp only [loopIn, Option.getD_some, if_true]
      obtain ⟨v1, e_v1, h⟩ := ob h
      have e_v1c : call Tryd.prog T H (.fn 26) [.p (.lit (.string (bs x1)))] [] = some (.ret (.p (bv v1)), []) := spec26 n x1 v1 e_v1
      by_cases c2 : v1 = true
      · have h := iteT h c2
        obtain ⟨v2, e_v2, h⟩ := ob h
        obtain ⟨e_v21, e_v22, e_v23, e_v24⟩ := slcT_some e_v2
        try simp only [Int.toNat_natCast] at e_v21
        try simp only [Int.toNat_natCast] at e_v23
        try simp only [Int.toNat_natCast] at e_v24
        obtain ⟨v3, e_v3, h⟩ := ob h
        have e_v3c : call Tryd.prog T H (.fn 85) [.p (.sl none 1 (List.map rowS v2)), .p (.lit (.string (bs x1)))] [] = some (.ret (.p (iv v3)), []) := spec85 v2 x1 v3 e_v3
        by_cases c3 : 0 ≤ v3
        · have h := iteT h c3
          simp only [go_sem, hx1, hi1, hw1, e_v1c, c2, e_v21, e_v23, ← e_v24, e_v3c, c3, hR1, hE1]
          injection h with h; subst h
          exact Sat.ok hQ
        · have h := iteF h c3
          simp only [go_sem, hx1, hi1, hw1, e_v1c, c2, e_v21, e_v23, ← e_v24, e_v3c, c3, hR1, hE1]
          exact ih1 _ h
      · have h := iteF h c2
        have c2 := eq_false_of_ne_true c2
        simp only [go_sem, hx1, hi1, hw1, e_v1c, c2, hR1, hE1]
        injection h with h; subst h
        exact Sat.ok hQ
  · have h := iteF h c1
    have c1b : ((a0.length : Int) != a1) = true := bneT c1
    simp only [go_sem, c1b]
    injection h with h; subst h
    exact Sat.ok hQ

def ref01_Write : Nat → (List Str) → Tree → Option Str
  | 0, _, _ => none
  | n + 1, a0, a1 =>
    (idx a0 a1.Sym).bind fun v1 =>
    rangeL a1.Kids v1 (fun k1 i1 x1 (s1 : Str) n1 =>
      if (i1 : Int) = 0 then
        (cat s1 ([40] : Str)).bind fun v3 =>
        (ref01_Write n a0 x1).bind fun v4 =>
        (cat v3 v4).bind fun v5 =>
        n1 v5
      else
        (cat s1 ([44, 32] : Str)).bind fun v6 =>
        (ref01_Write n a0 x1).bind fun v7 =>
        (cat v6 v7).bind fun v8 =>
        n1 v8) fun s1 =>
    if 0 < (a1.Kids.length : Int) then
      (cat s1 ([41] : Str)).bind fun v2 =>
      some v2
    else
      some s1
theorem spec67 : ∀ (n : Nat), (∀ (a0 : List Str) (a1 : Tree) (r : Str), ref01_Write n a0 a1 = some r →
    call Tryd.prog T H (.fn 67) [.p (.sl none 1 (List.map rowS a0)), .p (.agg [iv a1.Sym, .sl none 2 (List.map row_Tree a1.Kids)])] [] = some (.ret (.p (.lit (.string (bs r)))), [])) := by
  intro n
  induction n with
  | zero => intro a0 a1 r h; cases h
  | succ n ih =>
    intro a0 a1 r h
    refine Sat.fn fun Q hQ => ?_
    rw [ref01_Write] at h
    rw [call67]
    conv => arg 1; arg 7; unfold S01.c67 Tryd.f67; simp only [Option.getD_some]
    obtain ⟨v1, e_v1, h⟩ := ob h
    obtain ⟨e_v1a, e_v1b⟩ := idx_some e_v1
    simp only [go_sem, e_v1a, e_v1b]
    refine run_rangeL (c := L67_0) (live := [0, 3, 5, 14, 15, 16]) (by simp only [go_sem]) (M := fun i1 (s1 : Str) => [(0, .p (.sl none 1 (List.map rowS a0))), (3, .ptr 0 0), (5, .p (.lit (.string (bs s1)))), (14, .p (.sl none 2 (List.map row_Tree a1.Kids))), (15, .p (iv (a1.Kids.length : Int))), (16, .p (iv (i1 : Int)))]) (Z := fun i1 (s1 : Str) => [.cells [.p (iv a1.Sym), .p (.sl none 2 (List.map row_Tree a1.Kids))]]) (N := fun (s1 : Str) => ⟨[(3, .ptr 0 0), (5, .p (.lit (.string (bs s1))))], [.cells [.p (iv a1.Sym), .p (.sl none 2 (List.map row_Tree a1.Kids))]], [], none, false⟩) h rfl rfl (fun _ _ => rfl) ?_ ?_ ?_
    · intro s1 h
      try dsimp only at h ⊢
      by_cases c1 : 0 < (a1.Kids.length : Int)
      · have h := iteT h c1
        obtain ⟨v2, e_v2, h⟩ := ob h
        have e_v2a := (cat_some e_v2).1
        have e_v2b := (cat_some e_v2).2
        simp only [go_sem] at e_v2a
        try simp only [go_sem] at e_v2b
        simp only [go_sem, c1, e_v2a, e_v2b]
        injection h with h; subst h
        exact Sat.ok hQ
      · have h := iteF h c1
        simp only [go_sem, c1]
        injection h with h; subst h
        exact Sat.ok hQ
    · intro K1 s1 hb1 he1
      try dsimp only
      conv => arg 1; arg 7; unfold L67_0 loopAt S01.c67 Tryd.f67; simp only [loopIn, Option.getD_some, if_true]
      simp only [go_sem, he1]
      exact hb1
    · intro K1 k1 i1 x1 s1 n1 hR1 hE1 hb1 hx1 hi1 hw1 ih1 h
      try dsimp only at h ⊢
      conv => arg 1; arg 7; unfold L67_0 loopAt S01.c67 Tryd.f67; simp only [loopIn, Option.getD_some, if_true]
      by_cases c2 : (i1 : Int) = 0
      · have h := iteT h c2
        have c2b : ((i1 : Int) == 0) = true := beqT c2
        obtain ⟨v3, e_v3, h⟩ := ob h
        have e_v3a := (cat_some e_v3).1
        have e_v3b := (cat_some e_v3).2
        simp only [go_sem] at e_v3a
        try simp only [go_sem] at e_v3b
        obtain ⟨v4, e_v4, h⟩ := ob h
        have e_v4c : call Tryd.prog T H (.fn 67) [.p (.sl none 1 (List.map rowS a0)), .p (.agg [iv x1.Sym, .sl none 2 (List.map row_Tree x1.Kids)])] [] = some (.ret (.p (.lit (.string (bs v4)))), []) := ih a0 x1 v4 e_v4
        obtain ⟨v5, e_v5, h⟩ := ob h
        have e_v5a := (cat_some e_v5).1
        have e_v5b := (cat_some e_v5).2
        simp only [go_sem] at e_v5a
        try simp only [go_sem] at e_v5b
        simp only [go_sem, hx1, hi1, hw1, c2b, e_v3a, e_v3b, e_v4c, e_v5a, e_v5b, hR1, hE1]
        exact ih1 _ h
      · have h := iteF h c2
        have c2b : ((i1 : Int) == 0) = false := beqF c2
        obtain ⟨v6, e_v6, h⟩ := ob h
        have e_v6a := (cat_some e_v6).1
        have e_v6b := (cat_some e_v6).2
        simp only [go_sem] at e_v6a
        try simp only [go_sem] at e_v6b
        obtain ⟨v7, e_v7, h⟩ := ob h
        have e_v7c : call Tryd.prog T H (.fn 67) [.p (.sl none 1 (List.map rowS a0)), .p (.agg [iv x1.Sym, .sl none 2 (List.map row_Tree x1.Kids)])] [] = some (.ret (.p (.lit (.string (bs v7)))), []) := ih a0 x1 v7 e_v7
        obtain ⟨v8, e_v8, h⟩ := ob h
        have e_v8a := (cat_some e_v8).1
        have e_v8b := (cat_some e_v8).2
        simp only [go_sem] at e_v8a
        try simp only [go_sem] at e_v8b
        simp only [go_sem, hx1, hi1, hw1, c2b, e_v6a, e_v6b, e_v7c, e_v8a, e_v8b, hR1, hE1]
        exact ih1 _ h

def ref01_Print (n : Nat) (a0 : Alphabet) (a1 : List Str) (a2 : Tree) : Option (Str × Int) :=
  (ref01_Valid n a0 a2).bind fun v1 =>
  if v1 = true then
    (ref01_Names n a1 (a0.Ranks.length : Int)).bind fun v2 =>
    if v2 = true then
      (ref01_Write n a1 a2).bind fun v3 =>
      some (v3, 0)
    else
      some (([] : Str), 4)
  else
    some (([] : Str), 1)
theorem spec35 (n : Nat) (a0 : Alphabet) (a1 : List Str) (a2 : Tree) (r : Str × Int) (h : ref01_Print n a0 a1 a2 = some r) :
    call Tryd.prog T H (.fn 35) [.p (.agg [.sl none 1 (List.map rowI a0.Ranks)]), .p (.sl none 1 (List.map rowS a1)), .p (.agg [iv a2.Sym, .sl none 2 (List.map row_Tree a2.Kids)])] [] = some (.ret (.p (.tup [.lit (.string (bs r.1)), iv r.2])), []) := by
  refine Sat.fn fun Q hQ => ?_
  unfold ref01_Print at h
  rw [call35]
  conv => arg 1; arg 7; unfold S01.c35 Tryd.f35; simp only [Option.getD_some]
  obtain ⟨v1, e_v1, h⟩ := ob h
  have e_v1c : call Tryd.prog T H (.fn 18) [.p (.agg [.sl none 1 (List.map rowI a0.Ranks)]), .p (.agg [iv a2.Sym, .sl none 2 (List.map row_Tree a2.Kids)])] [] = some (.ret (.p (bv v1)), []) := spec18 n a0 a2 v1 e_v1
  by_cases c1 : v1 = true
  · have h := iteT h c1
    obtain ⟨v2, e_v2, h⟩ := ob h
    have e_v2c : call Tryd.prog T H (.fn 66) [.p (.sl none 1 (List.map rowS a1)), .p (iv (a0.Ranks.length : Int))] [] = some (.ret (.p (bv v2)), []) := spec66 n a1 (a0.Ranks.length : Int) v2 e_v2
    by_cases c2 : v2 = true
    · have h := iteT h c2
      obtain ⟨v3, e_v3, h⟩ := ob h
      have e_v3c : call Tryd.prog T H (.fn 67) [.p (.sl none 1 (List.map rowS a1)), .p (.agg [iv a2.Sym, .sl none 2 (List.map row_Tree a2.Kids)])] [] = some (.ret (.p (.lit (.string (bs v3)))), []) := spec67 n a1 a2 v3 e_v3
      simp only [go_sem, e_v1c, c1, e_v2c, c2, e_v3c]
      injection h with h; subst h
      exact Sat.ok hQ
    · have h := iteF h c2
      have c2 := eq_false_of_ne_true c2
      simp only [go_sem, e_v1c, c1, e_v2c, c2]
      injection h with h; subst h
      exact Sat.ok hQ
  · have h := iteF h c1
    have c1 := eq_false_of_ne_true c1
    simp only [go_sem, e_v1c, c1]
    injection h with h; subst h
    exact Sat.ok hQ

def tree_Known (a0 : List Str) (a1 : Str) : Option Int :=
  (slices_Index_Lstring_string a0 a1).bind fun v1 =>
  if v1 < 0 then
    none
  else
    some v1
theorem spec93 (a0 : List Str) (a1 : Str) (r : Int) (h : tree_Known a0 a1 = some r) :
    call Tryd.prog T H (.fn 93) [.p (.sl none 1 (List.map rowS a0)), .p (.lit (.string (bs a1)))] [] = some (.ret (.p (iv r)), []) := by
  refine Sat.fn fun Q hQ => ?_
  unfold tree_Known at h
  rw [call93]
  conv => arg 1; arg 7; unfold S01.c93 Tryd.f93; simp only [Option.getD_some]
  obtain ⟨v1, e_v1, h⟩ := ob h
  have e_v1c : call Tryd.prog T H (.fn 92) [.p (.sl none 1 (List.map rowS a0)), .p (.lit (.string (bs a1)))] [] = some (.ret (.p (iv v1)), []) := spec92 a0 a1 v1 e_v1
  by_cases c1 : v1 < 0
  · have h := iteT h c1
    cases h
  · have h := iteF h c1
    simp only [go_sem, e_v1c, c1]
    injection h with h; subst h
    exact Sat.ok hQ

end Go.AM.S01

namespace Go.AM.S01
open Go Go.Proofs Go.AM
set_option maxRecDepth 100000
set_option maxHeartbeats 4000000
set_option linter.unusedVariables false
theorem Sat.callrange {n : Nat} {K : Ex × S → Option (Out × List AObj)} {Q : Out × List AObj → Prop} {s : S} {d : Option Nat} {A : Option (Out × List AObj)} (h : Sat A (fun y => Sat (rangeK n K (some (endCall s d y.2 y.1))) Q)) :
    Sat (rangeK n K (callR s d A)) Q := by
  obtain ⟨⟨o, σ⟩, rfl, h2⟩ := h
  exact h2
/-- the slice of a position: nil, or a part of its array -/
abbrev PS := Option (Nat × List Int × Nat)
abbrev OS := Option (Nat × List (List Int))
def pv : PS → AV
  | none => .nms 7 1
  | some (g, _, n) => .ms 7 g 1 0 n
def po : PS → AObj
  | none => .dead
  | some (g, l, _) => .arr g 1 (l.map (rowA rowI))
def ov : OS → AV
  | none => .nms 2 1
  | some (g, l) => .ms 2 g 1 0 l.length
def oo : OS → AObj
  | none => .dead
  | some (g, l) => .arr g 1 (l.map (rowA (rowL 1 rowI)))
def pcl : PS → Option (List Int)
  | none => some []
  | some (_, l, n) => if n ≤ l.length ∧ n * 8 ≤ 70368744177664 then some (l.take n) else none
theorem spec56n (id : Nat) (σ : List AObj) : call Tryd.prog T H (.fn 56) [.nms id 1] σ = some (.ret (.p (.sl none 1 [])), σ) := by
  refine Sat.fn fun Q hQ => ?_
  rw [call56]
  conv => arg 1; arg 7; unfold S01.c56 Tryd.f56; simp only [Option.getD_some]
  simp only [go_sem]
  exact Sat.ok hQ
theorem copyR_rowI (l : List Int) : copyR (l.map (rowA rowI)) = l.map (rowA rowI) := by
  induction l with
  | nil => rfl
  | cons a l ih => rw [List.map_cons, copyR, ih]; rfl
theorem allRows_rowI (l : List Int) : allRows (l.map (rowA rowI)) = some (l.map rowI) := by
  induction l with
  | nil => rfl
  | cons a l ih => rw [List.map_cons, allRows, ih]; rfl
theorem spec56m {id g n : Nat} {l : List Int} {σ : List AObj} (h : σ[id]? = some (.arr g 1 (l.map (rowA rowI)))) (hn : n ≤ l.length) (hb : n * 8 ≤ 70368744177664) : call Tryd.prog T H (.fn 56) [.ms id g 1 0 n] σ = some (.ret (.p (.sl none 1 ((l.take n).map rowI))), σ) := by
  refine Sat.fn fun Q hQ => ?_
  have e1 : boundOk n 8 = true := bnd_of hb (by decide)
  have e2 : allRows (List.take n (l.map (rowA rowI))) = some ((l.take n).map rowI) := by rw [← List.map_take, allRows_rowI]
  have e3 : ((l.take n).map rowI).length = n := by rw [List.length_map, List.length_take]; omega
  rw [call56]
  conv => arg 1; arg 7; unfold S01.c56 Tryd.f56; simp only [Option.getD_some]
  have e4 : min n l.length = n := Nat.min_eq_left hn
  simp only [go_sem, h, hn, e1, allRows_rowI, List.length_map, List.length_take, e4]
  exact Sat.ok hQ
end Go.AM.S01

namespace Go.AM.S01
open Go Go.Proofs Go.AM
set_option maxRecDepth 100000
set_option maxHeartbeats 4000000
set_option linter.unusedVariables false
def oapp : OS → List Int → Option OS
  | none, x => some (some (1, [x]))
  | some (g, l), x => (app 24 l [x]).bind fun l' => some (some (g + 1, l'))
theorem set_back {α : Type} {l : List α} {i : Nat} {a : α} (h : l[i]? = some a) : l.set i a = l := by
  apply List.ext_getElem?
  intro j
  by_cases e : i = j
  · subst e
    have := (List.getElem?_eq_some_iff.mp h).1
    rw [List.getElem?_set_self this, h]
  · rw [List.getElem?_set_ne e]
theorem yield27 {E : Env} (hE : get E 6 = .ptr 3 0) {ρ : List AObj} (hl : 10 ≤ ρ.length) (h5 : ρ[5]? = some (.loop 0 none 22 27 E [14, 15] A27_0 B27_0)) (o o1 : OS) (p : PS) (h2 : ρ[2]? = some (oo o)) (h3 : ρ[3]? = some (.cells [ov o])) (h7 : ρ[7]? = some (po p)) (t : Tree) {x : List Int} (ex : pcl p = some x) (e1 : oapp o x = some o1) :
    call Tryd.prog T H (.yld 5) [pv p, .p (.agg [iv t.Sym, .sl none 2 (List.map row_Tree t.Kids)])] ρ = some (.ret (.p (bv true)), (ρ.set 2 (oo o1)).set 3 (.cells [ov o1])) := by
  refine Sat.fn fun Q hQ => ?_
  have a2 : ∀ y, (ρ.set 5 y)[2]? = some (oo o) := fun y => by rw [List.getElem?_set_ne (by decide)]; exact h2
  have a3 : ∀ y, (ρ.set 5 y)[3]? = some (.cells [ov o]) := fun y => by rw [List.getElem?_set_ne (by decide)]; exact h3
  have a7 : ∀ y, (ρ.set 5 y)[7]? = some (po p) := fun y => by rw [List.getElem?_set_ne (by decide)]; exact h7
  have b3 : ∀ y z, ((ρ.set 5 y).set 2 z)[3]? = some (.cells [ov o]) := fun y z => by rw [List.getElem?_set_ne (by decide)]; exact a3 y
  have b5 : ∀ y z u, (((ρ.set 5 y).set 2 z).set 3 u)[5]? = some y := fun y z u => by rw [List.getElem?_set_ne (by decide), List.getElem?_set_ne (by decide), List.getElem?_set_self (by omega)]
  have b6 : ∀ y z u, (((ρ.set 5 y).set 2 z).set 3 u).set 5 (.loop 0 none 22 27 E [14, 15] A27_0 B27_0) = (ρ.set 2 z).set 3 u := fun y z u => by
    rw [List.set_comm _ _ (by decide : 3 ≠ 5), List.set_comm _ _ (by decide : 2 ≠ 5), List.set_set, set_back h5]
  have b7 : ∀ z u, ((ρ.set 2 z).set 3 u).take ρ.length = (ρ.set 2 z).set 3 u := fun z u => List.take_of_length_le (by simp)
  have cl : ∀ y, call Tryd.prog T H (.fn 56) [pv p] (ρ.set 5 y) = some (.ret (.p (.sl none 1 (x.map rowI))), ρ.set 5 y) := fun y => by
    cases p with
    | none => injection ex with ex; subst ex; exact spec56n 7 _
    | some q =>
      obtain ⟨g, l, n⟩ := q
      unfold pcl at ex
      simp only [] at ex
      split at ex
      · rename_i hc
        injection ex with ex; subst ex
        exact spec56m (a7 y) hc.1 hc.2
      · cases ex
  have bk : boundOk 1 24 = true := by decide
  rcases o with _ | ⟨g', l'⟩
  · injection e1 with e1; subst e1
    rcases p with _ | ⟨g, l, n⟩
    · simp only [pv] at cl
      simp only [ov, oo] at a2 a3 b3
      rw [call_yld (h := h5) (hok := yo27_0) (hl := rfl)]
      conv => arg 1; arg 7; unfold A27_0 rangeA S01.c27 Tryd.f27; simp only [rangeIn, Option.getD_some, if_true]
      simp only [go_sem, asgK, setSt, h5, pv]
      conv => arg 1; arg 7; unfold B27_0 rangeB S01.c27 Tryd.f27; simp only [rangeIn, Option.getD_some, if_true]
      simp only [go_sem, hE, a2, a3, b3, b5, b6, b7, cl, bk, yldK, endYield, yldRet, setSt, List.length_set]
      exact Sat.ok (by simpa only [go_sem, ov, oo, List.map_cons, List.map_nil] using hQ)
    · simp only [pv] at cl
      simp only [ov, oo] at a2 a3 b3
      rw [call_yld (h := h5) (hok := yo27_0) (hl := rfl)]
      conv => arg 1; arg 7; unfold A27_0 rangeA S01.c27 Tryd.f27; simp only [rangeIn, Option.getD_some, if_true]
      simp only [go_sem, asgK, setSt, h5, pv]
      conv => arg 1; arg 7; unfold B27_0 rangeB S01.c27 Tryd.f27; simp only [rangeIn, Option.getD_some, if_true]
      simp only [go_sem, hE, a2, a3, b3, b5, b6, b7, cl, bk, yldK, endYield, yldRet, setSt, List.length_set]
      exact Sat.ok (by simpa only [go_sem, ov, oo, List.map_cons, List.map_nil] using hQ)
  · obtain ⟨l2, e2, e1⟩ := ob e1
    injection e1 with e1; subst e1
    have e2a : boundOk (l'.length + 1) 24 = true := bnd_of (by have := (app_some e2).1; simpa using this) (by decide)
    have e2b := (app_some e2).2
    have e2c : l'.map (rowA (rowL 1 rowI)) ++ [[AV.p (.sl none 1 (x.map rowI))]] = l2.map (rowA (rowL 1 rowI)) := by rw [e2b]; simp [rowA, rowL]
    have e2d : l'.length + 1 = l2.length := by rw [e2b]; simp
    have e2f : (l'.map (rowA (rowL 1 rowI))).take l'.length = l'.map (rowA (rowL 1 rowI)) := List.take_of_length_le (by simp)
    have e2g : boundOk l2.length 24 = true := by rw [← e2d]; exact e2a
    rcases p with _ | ⟨g, l, n⟩
    · simp only [pv] at cl
      simp only [ov, oo] at a2 a3 b3
      rw [call_yld (h := h5) (hok := yo27_0) (hl := rfl)]
      conv => arg 1; arg 7; unfold A27_0 rangeA S01.c27 Tryd.f27; simp only [rangeIn, Option.getD_some, if_true]
      simp only [go_sem, asgK, setSt, h5, pv]
      conv => arg 1; arg 7; unfold B27_0 rangeB S01.c27 Tryd.f27; simp only [rangeIn, Option.getD_some, if_true]
      simp only [go_sem, hE, a2, a3, b3, b5, b6, b7, cl, e2a, e2c, e2d, e2f, e2g, yldK, endYield, yldRet, setSt, List.length_set]
      exact Sat.ok (by simpa only [go_sem, ov, oo, List.map_cons, List.map_nil] using hQ)
    · simp only [pv] at cl
      simp only [ov, oo] at a2 a3 b3
      rw [call_yld (h := h5) (hok := yo27_0) (hl := rfl)]
      conv => arg 1; arg 7; unfold A27_0 rangeA S01.c27 Tryd.f27; simp only [rangeIn, Option.getD_some, if_true]
      simp only [go_sem, asgK, setSt, h5, pv]
      conv => arg 1; arg 7; unfold B27_0 rangeB S01.c27 Tryd.f27; simp only [rangeIn, Option.getD_some, if_true]
      simp only [go_sem, hE, a2, a3, b3, b5, b6, b7, cl, e2a, e2c, e2d, e2f, e2g, yldK, endYield, yldRet, setSt, List.length_set]
      exact Sat.ok (by simpa only [go_sem, ov, oo, List.map_cons, List.map_nil] using hQ)
end Go.AM.S01

namespace Go.AM.S01
open Go Go.Proofs Go.AM
set_option maxRecDepth 100000
set_option maxHeartbeats 4000000
set_option linter.unusedVariables false
structure WF (E : Env) (σ : List AObj) : Prop where
  len : 10 ≤ σ.length
  o5 : σ[5]? = some (.loop 0 none 22 27 E [14, 15] A27_0 B27_0)
  o6 : σ[6]? = some (.cells [.yld 5])
  o9 : σ[9]? = some (.cells [.fn 83 [.ptr 6 0, .ptr 8 0, .ptr 9 0]])
def wS (σ : List AObj) (s : OS × PS) : List AObj := (((σ.set 2 (oo s.1)).set 3 (.cells [ov s.1])).set 7 (po s.2)).set 8 (.cells [pv s.2])
theorem wS_len (σ : List AObj) (s : OS × PS) : (wS σ s).length = σ.length := by simp [wS]
theorem wS_get (σ : List AObj) (s : OS × PS) {i : Nat} (h : i ≠ 2 ∧ i ≠ 3 ∧ i ≠ 7 ∧ i ≠ 8) : (wS σ s)[i]? = σ[i]? := by
  unfold wS; rw [List.getElem?_set_ne (by omega), List.getElem?_set_ne (by omega), List.getElem?_set_ne (by omega), List.getElem?_set_ne (by omega)]
theorem wS_2 {σ : List AObj} (s : OS × PS) (h : 10 ≤ σ.length) : (wS σ s)[2]? = some (oo s.1) := by
  unfold wS; rw [List.getElem?_set_ne (by decide), List.getElem?_set_ne (by decide), List.getElem?_set_ne (by decide), List.getElem?_set_self (by omega)]
theorem wS_3 {σ : List AObj} (s : OS × PS) (h : 10 ≤ σ.length) : (wS σ s)[3]? = some (.cells [ov s.1]) := by
  unfold wS; rw [List.getElem?_set_ne (by decide), List.getElem?_set_ne (by decide), List.getElem?_set_self (by simp; omega)]
theorem wS_7 {σ : List AObj} (s : OS × PS) (h : 10 ≤ σ.length) : (wS σ s)[7]? = some (po s.2) := by
  unfold wS; rw [List.getElem?_set_ne (by decide), List.getElem?_set_self (by simp; omega)]
theorem wS_8 {σ : List AObj} (s : OS × PS) (h : 10 ≤ σ.length) : (wS σ s)[8]? = some (.cells [pv s.2]) := by
  unfold wS; rw [List.getElem?_set_self (by simp; omega)]
theorem wS_out (σ : List AObj) (s : OS × PS) (o : OS) : ((wS σ s).set 2 (oo o)).set 3 (.cells [ov o]) = wS σ (o, s.2) := by
  unfold wS
  rw [List.set_comm _ _ (by decide : 8 ≠ 2), List.set_comm _ _ (by decide : 7 ≠ 2), List.set_comm _ _ (by decide : 3 ≠ 2), List.set_set, List.set_comm _ _ (by decide : 8 ≠ 3), List.set_comm _ _ (by decide : 7 ≠ 3), List.set_set]
theorem wS_pos (σ : List AObj) (s : OS × PS) (p : PS) : ((wS σ s).set 7 (po p)).set 8 (.cells [pv p]) = wS σ (s.1, p) := by
  unfold wS
  rw [List.set_comm _ _ (by decide : 8 ≠ 7), List.set_set, List.set_set]
theorem wS_cell (σ : List AObj) (o : OS) (p q : PS) (h : po p = po q) : (wS σ (o, p)).set 8 (.cells [pv q]) = wS σ (o, q) := by
  unfold wS
  simp only []
  rw [List.set_set, h]
theorem wS_app {σ : List AObj} (s : OS × PS) (h : 10 ≤ σ.length) (l : List AObj) : wS σ s ++ l = wS (σ ++ l) s := by
  unfold wS
  rw [List.set_append_left _ _ (by omega), List.set_append_left _ _ (by simp; omega), List.set_append_left _ _ (by simp; omega), List.set_append_left _ _ (by simp; omega)]
theorem WF.app {E : Env} {σ : List AObj} (h : WF E σ) (l : List AObj) : WF E (σ ++ l) where
  len := by rw [List.length_append]; have := h.len; omega
  o5 := by rw [List.getElem?_append_left (by have := h.len; omega)]; exact h.o5
  o6 := by rw [List.getElem?_append_left (by have := h.len; omega)]; exact h.o6
  o9 := by rw [List.getElem?_append_left (by have := h.len; omega)]; exact h.o9
def posApp : PS → Int → Option PS
  | none, i => some (some (1, [i], 1))
  | some (g, l, n), i => if n ≤ l.length ∧ (n + 1) * 8 ≤ 70368744177664 then some (some (g + 1, l.take n ++ [i], n + 1)) else none
def posCut : PS → Option PS
  | some (g, l, n) => if 1 ≤ n ∧ n < 4611686018427387904 then some (some (g, l, n - 1)) else none
  | none => none
def treeW : Nat → Tree → OS × PS → Option (OS × PS)
  | 0, _, _ => none
  | n + 1, t, s =>
    (pcl s.2).bind fun x => (oapp s.1 x).bind fun o1 =>
    rangeL t.Kids (o1, s.2) (fun _ i x1 s1 n1 =>
      (posApp s1.2 (i : Int)).bind fun p1 => (treeW n x1 (s1.1, p1)).bind fun v => (posCut v.2).bind fun p2 => n1 (v.1, p2)) fun s1 => some s1
theorem spec83 {E : Env} (hE : get E 6 = .ptr 3 0) : ∀ (n : Nat) (σ : List AObj) (w : WF E σ) (t : Tree) (s r : OS × PS), treeW n t s = some r →
    call Tryd.prog T H (.fn 83) [.p (.agg [iv t.Sym, .sl none 2 (List.map row_Tree t.Kids)]), .ptr 6 0, .ptr 8 0, .ptr 9 0] (wS σ s) = some (.ret (.p (bv true)), wS σ r) := by
  intro n
  induction n with
  | zero => intro σ w t s r h; cases h
  | succ n ih =>
    intro σ w t s r h
    refine Sat.fn fun Q hQ => ?_
    rw [treeW] at h
    obtain ⟨x, ex, h⟩ := ob h
    obtain ⟨o1, eo, h⟩ := ob h
    have hl := w.len
    have b8n : ∀ s, (wS σ s)[8]? = some (.cells [pv s.2]) := fun s => wS_8 _ hl
    have b8 : ∀ s l, (wS σ s ++ l)[8]? = some (.cells [pv s.2]) := fun s l => by rw [List.getElem?_append_left (by rw [wS_len]; omega), wS_8 _ hl]
    have b7 : ∀ s l, (wS σ s ++ l)[7]? = some (po s.2) := fun s l => by rw [List.getElem?_append_left (by rw [wS_len]; omega), wS_7 _ hl]
    have b87 : ∀ s l z, ((wS σ s ++ l).set 7 z)[8]? = some (.cells [pv s.2]) := fun s l z => by rw [List.getElem?_set_ne (by decide), b8]
    have b6 : ∀ s l, (wS σ s ++ l)[6]? = some (.cells [.yld 5]) := fun s l => by rw [List.getElem?_append_left (by rw [wS_len]; omega), wS_get _ _ (by decide), w.o6]
    have b9 : ∀ s l, (wS σ s ++ l)[9]? = some (.cells [.fn 83 [.ptr 6 0, .ptr 8 0, .ptr 9 0]]) := fun s l => by rw [List.getElem?_append_left (by rw [wS_len]; omega), wS_get _ _ (by decide), w.o9]
    have g0 : ∀ s l, (wS σ s ++ l)[σ.length]? = l[0]? := fun s l => sA0 (wS_len σ s)
    have gk : ∀ s l k, (wS σ s ++ l)[σ.length + k]? = l[k]? := fun s l k => sAK (wS_len σ s)
    have s0 : ∀ s l y, (wS σ s ++ l).set σ.length y = wS σ s ++ l.set 0 y := fun s l y => sS0 (wS_len σ s)
    have sk : ∀ s l y k, (wS σ s ++ l).set (σ.length + k) y = wS σ s ++ l.set k y := fun s l y k => sSK (wS_len σ s)
    have t0 : ∀ s l, (wS σ s ++ l).take σ.length = wS σ s := fun s l => sT0 (wS_len σ s)
    have tk : ∀ s l k, (wS σ s ++ l).take (σ.length + k) = wS σ s ++ l.take k := fun s l k => sTK (wS_len σ s)
    have tx : ∀ s, (wS σ s).take σ.length = wS σ s := fun s => sTX (wS_len σ s)
    have cp : copyA (pv s.2) = pv s.2 := by cases s.2 <;> rfl
    have yy : ∀ l, call Tryd.prog T H (.yld 5) [pv s.2, .p (.agg [iv t.Sym, .sl none 2 (List.map row_Tree t.Kids)])] (wS σ s ++ l) = some (.ret (.p (bv true)), wS σ (o1, s.2) ++ l) := fun l => by
      have q := yield27 hE (ρ := wS σ s ++ l) (by rw [List.length_append, wS_len]; omega) (by rw [List.getElem?_append_left (by rw [wS_len]; omega), wS_get _ _ (by decide), w.o5]) s.1 o1 s.2 (by rw [List.getElem?_append_left (by rw [wS_len]; omega), wS_2 _ hl]) (by rw [List.getElem?_append_left (by rw [wS_len]; omega), wS_3 _ hl]) (by rw [List.getElem?_append_left (by rw [wS_len]; omega), wS_7 _ hl]) t ex eo
      rw [List.set_append_left _ _ (by rw [wS_len]; omega), List.set_append_left _ _ (by rw [List.length_set, wS_len]; omega), wS_out] at q
      exact q
    rw [call83]
    conv => arg 1; arg 7; unfold S01.c83 Tryd.f83; simp only [Option.getD_some]
    have loop : ∀ (K : Ex × S → Option (Out × List AObj)) (e0 : Env), maskEnv e0 [2, 3, 14, 15, 16] = [(2, .ptr 8 0), (3, .ptr 9 0), (14, .p (.sl none 2 (List.map row_Tree t.Kids))), (15, .p (iv (t.Kids.length : Int))), (16, .p (iv 0))] →
        (∀ s1, some s1 = some r → Sat (K (.exit 0, ⟨[], wS σ s1 ++ [.cells [.p (iv t.Sym), .p (.sl none 2 (List.map row_Tree t.Kids))]], [], none, false⟩)) Q) →
        Sat (run Tryd.prog T H 83 σ.length 0 (.loop L83_0) ⟨e0, wS σ (o1, s.2) ++ [.cells [.p (iv t.Sym), .p (.sl none 2 (List.map row_Tree t.Kids))]], [], none, false⟩ K) Q := by
      intro K e0 h0 hK
      refine run_rangeL (c := L83_0) (live := [2, 3, 14, 15, 16]) (by simp only [go_sem]) (M := fun i1 (s1 : OS × PS) => [(2, .ptr 8 0), (3, .ptr 9 0), (14, .p (.sl none 2 (List.map row_Tree t.Kids))), (15, .p (iv (t.Kids.length : Int))), (16, .p (iv (i1 : Int)))]) (Z := fun i1 s1 => wS σ s1 ++ [.cells [.p (iv t.Sym), .p (.sl none 2 (List.map row_Tree t.Kids))]]) (N := fun s1 => ⟨[], wS σ s1 ++ [.cells [.p (iv t.Sym), .p (.sl none 2 (List.map row_Tree t.Kids))]], [], none, false⟩) h h0 rfl (fun _ _ => rfl) ?_ ?_ ?_
      · intro s1 h
        exact hK s1 h
      · intro K1 s1 hb1 he1
        try dsimp only
        conv => arg 1; arg 7; unfold L83_0 loopAt S01.c83 Tryd.f83; simp only [loopIn, Option.getD_some, if_true]
        simp only [go_sem, he1, wS_len, b8n, b8, b7, b6, b9, g0, gk, s0, sk, t0, tk, tx]
        exact hb1
      · intro K1 k1 i1 x1 s1 n1 hR1 hE1 hb1 hx1 hi1 hw1 ih1 h
        try dsimp only at h ⊢
        obtain ⟨p1, ep1, h⟩ := ob h
        obtain ⟨v, ev, h⟩ := ob h
        obtain ⟨p2, ep2, hfin⟩ := ob h
        have c9 : ∀ l, call Tryd.prog T H (.fn 83) [.p (.agg [iv x1.Sym, .sl none 2 (List.map row_Tree x1.Kids)]), .ptr 6 0, .ptr 8 0, .ptr 9 0] (wS σ (s1.1, p1) ++ l) = some (.ret (.p (bv true)), wS σ v ++ l) := fun l => by
          have q := ih (σ ++ l) (w.app l) x1 (s1.1, p1) v ev
          rw [← wS_app _ hl, ← wS_app _ hl] at q
          exact q
        have hp : ∀ l, ((wS σ s1 ++ l).set 7 (po p1)).set 8 (.cells [pv p1]) = wS σ (s1.1, p1) ++ l := fun l => by
          rw [List.set_append_left _ _ (by rw [wS_len]; omega), List.set_append_left _ _ (by rw [List.length_set, wS_len]; omega), wS_pos]
        have hc : ∀ l, (wS σ v ++ l).set 8 (.cells [pv p2]) = wS σ (v.1, p2) ++ l := fun l => by
          rw [List.set_append_left _ _ (by rw [wS_len]; omega)]
          congr 1
          obtain ⟨v1, v2⟩ := v
          refine wS_cell σ v1 v2 p2 ?_
          unfold posCut at ep2
          split at ep2
          · split at ep2
            · injection ep2 with ep2; subst ep2; rename_i e _; simp only [] at e; rw [e]; rfl
            · cases ep2
          · cases ep2
        conv => arg 1; arg 7; unfold L83_0 loopAt S01.c83 Tryd.f83; simp only [loopIn, Option.getD_some, if_true]
        obtain ⟨vo, vp⟩ := v
        rcases vp with _ | ⟨g2, l2, n2⟩
        · cases ep2
        unfold posCut at ep2
        simp only [] at ep2
        split at ep2
        case isFalse => cases ep2
        rename_i hn2
        injection ep2 with ep2; subst ep2
        have hw2 : IntKind.i64.wrap ((n2 : Int) - 1) = ((n2 - 1 : Nat) : Int) := by rw [wrapN] <;> omega
        have hle2 : n2 - 1 ≤ n2 := Nat.sub_le _ _
        have l8 : 8 < σ.length + 1 := by omega
        have l9 : 9 < σ.length + 1 := by omega
        simp only [pv] at hc b8
        obtain ⟨so, sp⟩ := s1
        rcases sp with _ | ⟨g, l, nn⟩
        · injection ep1 with ep1; subst ep1
          have bk : boundOk 1 8 = true := by decide
          simp only [go_sem, po, pv, List.map_cons, List.map_nil, rowA] at hp
          have f8 : ∀ l, (wS σ (so, none) ++ l)[8]? = some (.cells [.nms 7 1]) := fun l => by rw [List.getElem?_append_left (by rw [wS_len]; omega), wS_8 _ hl]; rfl
          have f7 : ∀ l, (wS σ (so, none) ++ l)[7]? = some .dead := fun l => by rw [List.getElem?_append_left (by rw [wS_len]; omega), wS_7 _ hl]; rfl
          have f87 : ∀ l z, ((wS σ (so, none) ++ l).set 7 z)[8]? = some (.cells [.nms 7 1]) := fun l z => by rw [List.getElem?_set_ne (by decide), f8]
          have v8 : ∀ l, (wS σ (vo, some (g2, l2, n2)) ++ l)[8]? = some (.cells [.ms 7 g2 1 0 n2]) := fun l => by rw [List.getElem?_append_left (by rw [wS_len]; omega), wS_8 _ hl]; rfl
          simp only [go_sem, hx1, hi1, hw1, hw2, hle2, bk, f8, f7, f87, hp, c9, v8, hc, hR1, hE1, wS_len, b6, b9, g0, gk, s0, sk, t0, tk, tx, l8, l9, Nat.sub_zero]
          exact ih1 _ hfin
        · unfold posApp at ep1
          simp only [] at ep1
          split at ep1
          case isFalse => cases ep1
          rename_i hn1
          injection ep1 with ep1; subst ep1
          have bk : boundOk (nn + 1) 8 = true := bnd_of hn1.2 (by decide)
          have hn3 := hn1.1
          simp only [po, pv] at hp
          have em : List.map (rowA rowI) (List.take nn l) ++ [[AV.p (iv (i1 : Int))]] = List.map (rowA rowI) (List.take nn l ++ [(i1 : Int)]) := by rw [List.map_append]; rfl
          have f8 : ∀ k, (wS σ (so, some (g, l, nn)) ++ k)[8]? = some (.cells [.ms 7 g 1 0 nn]) := fun k => by rw [List.getElem?_append_left (by rw [wS_len]; omega), wS_8 _ hl]; rfl
          have f7 : ∀ k, (wS σ (so, some (g, l, nn)) ++ k)[7]? = some (.arr g 1 (l.map (rowA rowI))) := fun k => by rw [List.getElem?_append_left (by rw [wS_len]; omega), wS_7 _ hl]; rfl
          have f87 : ∀ k z, ((wS σ (so, some (g, l, nn)) ++ k).set 7 z)[8]? = some (.cells [.ms 7 g 1 0 nn]) := fun k z => by rw [List.getElem?_set_ne (by decide), f8]
          have v8 : ∀ k, (wS σ (vo, some (g2, l2, n2)) ++ k)[8]? = some (.cells [.ms 7 g2 1 0 n2]) := fun k => by rw [List.getElem?_append_left (by rw [wS_len]; omega), wS_8 _ hl]; rfl
          simp only [go_sem, hx1, hi1, hw1, hw2, hle2, hn3, bk, f8, f7, f87, em, hp, c9, v8, hc, hR1, hE1, wS_len, b6, b9, g0, gk, s0, sk, t0, tk, tx, List.length_map, l8, l9, Nat.sub_zero]
          exact ih1 _ hfin
    obtain ⟨so, sp⟩ := s
    rcases sp with _ | ⟨g, l, nn⟩
    · simp only [pv] at yy
      have f8 : ∀ k, (wS σ (so, none) ++ k)[8]? = some (.cells [.nms 7 1]) := fun k => by rw [List.getElem?_append_left (by rw [wS_len]; omega), wS_8 _ hl]; rfl
      simp only [go_sem, wS_len, f8, b6, b9, g0, gk, s0, sk, t0, tk, tx, yy]
      refine loop _ _ rfl ?_
      intro s1 hs
      injection hs with hs; subst hs
      simp only [go_sem, wS_len, b6, b9, g0, gk, s0, sk, t0, tk, tx]
      exact Sat.ok hQ
    · simp only [pv] at yy
      have f8 : ∀ k, (wS σ (so, some (g, l, nn)) ++ k)[8]? = some (.cells [.ms 7 g 1 0 nn]) := fun k => by rw [List.getElem?_append_left (by rw [wS_len]; omega), wS_8 _ hl]; rfl
      simp only [go_sem, wS_len, f8, b6, b9, g0, gk, s0, sk, t0, tk, tx, yy]
      refine loop _ _ rfl ?_
      intro s1 hs
      injection hs with hs; subst hs
      simp only [go_sem, wS_len, b6, b9, g0, gk, s0, sk, t0, tk, tx]
      exact Sat.ok hQ
end Go.AM.S01

namespace Go.AM.S01
open Go Go.Proofs Go.AM
set_option maxRecDepth 100000
set_option maxHeartbeats 4000000
set_option linter.unusedVariables false
def tree_Positions (n : Nat) (a : Alphabet) (t : Tree) : Option (List (List Int) × Int) :=
  (tree_Valid n a t).bind fun v1 =>
  if v1 = true then (treeW n t (none, none)).bind fun v => (v.1).bind fun w => some (w.2, 0)
  else some ([], 1)
theorem spec27 (n : Nat) (a : Alphabet) (t : Tree) (r : List (List Int) × Int) (h : tree_Positions n a t = some r) :
    call Tryd.prog T H (.fn 27) [.p (.agg [.sl none 1 (List.map rowI a.Ranks)]), .p (.agg [iv t.Sym, .sl none 2 (List.map row_Tree t.Kids)])] [] = some (.ret (.p (.tup [.sl none 1 (List.map (rowL 1 rowI) r.1), iv r.2])), []) := by
  refine Sat.fn fun Q hQ => ?_
  unfold tree_Positions at h
  obtain ⟨v1, e_v1, h⟩ := ob h
  have e_v1c : call Tryd.prog T H (.fn 17) [.p (.agg [.sl none 1 (List.map rowI a.Ranks)]), .p (.agg [iv t.Sym, .sl none 2 (List.map row_Tree t.Kids)])] [] = some (.ret (.p (bv v1)), []) := spec17 n a t v1 e_v1
  rw [call27, cf27]
  conv => arg 1; arg 7; unfold S01.c27 Tryd.f27; simp only [Option.getD_some, foldR, if_true]
  by_cases c1 : v1 = true
  · have h := iteT h c1
    obtain ⟨v, e_v, h⟩ := ob h
    obtain ⟨w, e_w, h⟩ := ob h
    obtain ⟨g, l⟩ := w
    simp only [go_sem, e_v1c, c1]
    refine Sat.callc ?_
    rw [call55]
    conv => arg 1; arg 7; unfold S01.c55 Tryd.f55; simp only [Option.getD_some]
    simp only [go_sem]
    refine Sat.ok ?_
    simp only [go_sem]
    have q : ∀ E c d, get E 6 = .ptr 3 0 → call Tryd.prog T H (.fn 83) [.p (.agg [iv t.Sym, .sl none 2 (List.map row_Tree t.Kids)]), .ptr 6 0, .ptr 8 0, .ptr 9 0] [c, d, .dead, .cells [.nms 2 1], d, .loop 0 none 22 27 E [14, 15] A27_0 B27_0, .cells [.yld 5], .dead, .cells [.nms 7 1], .cells [.fn 83 [.ptr 6 0, .ptr 8 0, .ptr 9 0]]] = some (.ret (.p (bv true)), [c, d, oo v.1, .cells [ov v.1], d, .loop 0 none 22 27 E [14, 15] A27_0 B27_0, .cells [.yld 5], po v.2, .cells [pv v.2], .cells [.fn 83 [.ptr 6 0, .ptr 8 0, .ptr 9 0]]]) := fun E c d hE =>
      spec83 hE n [c, d, .dead, .cells [.nms 2 1], d, .loop 0 none 22 27 E [14, 15] A27_0 B27_0, .cells [.yld 5], .dead, .cells [.nms 7 1], .cells [.fn 83 [.ptr 6 0, .ptr 8 0, .ptr 9 0]]] ⟨Nat.le_refl _, rfl, rfl, rfl⟩ t (none, none) v e_v
    rw [e_w] at q
    refine Sat.callrange ?_
    rw [call82]
    conv => arg 1; arg 7; unfold S01.c82 Tryd.f82; simp only [Option.getD_some]
    simp only [go_sem, q]
    refine Sat.ok ?_
    have ww := fun base (σ : List AObj) k => mapM_rowA (rowL 1 rowI) base σ k l
    simp only [go_sem, rangeK_ok, atLoop_some, pendK_none, ov, oo, ww, List.length_map]

    injection h with h; subst h
    exact Sat.ok hQ
  · have h := iteF h c1
    have c1 := eq_false_of_ne_true c1
    simp only [go_sem, e_v1c, c1]
    injection h with h; subst h
    exact Sat.ok hQ
theorem T_gl : T.gl = [(0, [.sl none 1 [[.lit (.int .i64 0)], [.lit (.int .i64 2)]]])] := rfl
attribute [go_sem] T_gl
end Go.AM.S01

namespace Go.AM.S01
open Go Go.Proofs Go.AM
set_option maxRecDepth 100000
set_option linter.unusedVariables false
set_option maxHeartbeats 4000000


def law01_awake (n : Nat)  : Option Bool :=
  (law01_leaf).bind fun v1 =>
  (law01_f v1 v1).bind fun v2 =>
  (law01_f v1 v2).bind fun v3 =>
  (law01_f v2 v1).bind fun v4 =>
  (tree_All n (Alphabet.mk [0, 2]) 5).bind fun v5 =>
  (tree_Positions n (Alphabet.mk [0, 2]) v3).bind fun v6 =>
  if v5.2 = 0 then
    (ref01_SameTrees n v5.1 [v3, v4]).bind fun v7 =>
    if v7 = true then
      (tree_Compare n v3 v4).bind fun v8 =>
      if v8 = (-1) then
        if v6.2 = 0 then
          (ref01_SameLists v6.1 [([] : List Int), [0], [1], [1, 0], [1, 1]]).bind fun v9 =>
          some v9
        else
          some false
      else
        some false
    else
      some false
  else
    some false
theorem spec10 (n : Nat)  (r : Bool) (h : law01_awake n = some r) :
    call Tryd.prog T H (.fn 10) [] [] = some (.ret (.p (bv r)), []) := by
  refine Sat.fn fun Q hQ => ?_
  unfold law01_awake at h
  rw [call10]
  conv => arg 1; arg 7; unfold S01.c10 Tryd.f10; simp only [Option.getD_some]
  obtain ⟨v1, e_v1, h⟩ := ob h
  have e_v1c : call Tryd.prog T H (.fn 40) [] [] = some (.ret (.p (.agg [iv v1.Sym, .sl none 2 (List.map row_Tree v1.Kids)])), []) := spec40 v1 e_v1
  obtain ⟨v2, e_v2, h⟩ := ob h
  have e_v2c : call Tryd.prog T H (.fn 39) [.p (.agg [iv v1.Sym, .sl none 2 (List.map row_Tree v1.Kids)]), .p (.agg [iv v1.Sym, .sl none 2 (List.map row_Tree v1.Kids)])] [] = some (.ret (.p (.agg [iv v2.Sym, .sl none 2 (List.map row_Tree v2.Kids)])), []) := spec39 v1 v1 v2 e_v2
  obtain ⟨v3, e_v3, h⟩ := ob h
  have e_v3c : call Tryd.prog T H (.fn 39) [.p (.agg [iv v1.Sym, .sl none 2 (List.map row_Tree v1.Kids)]), .p (.agg [iv v2.Sym, .sl none 2 (List.map row_Tree v2.Kids)])] [] = some (.ret (.p (.agg [iv v3.Sym, .sl none 2 (List.map row_Tree v3.Kids)])), []) := spec39 v1 v2 v3 e_v3
  obtain ⟨v4, e_v4, h⟩ := ob h
  have e_v4c : call Tryd.prog T H (.fn 39) [.p (.agg [iv v2.Sym, .sl none 2 (List.map row_Tree v2.Kids)]), .p (.agg [iv v1.Sym, .sl none 2 (List.map row_Tree v1.Kids)])] [] = some (.ret (.p (.agg [iv v4.Sym, .sl none 2 (List.map row_Tree v4.Kids)])), []) := spec39 v2 v1 v4 e_v4
  obtain ⟨v5, e_v5, h⟩ := ob h
  have e_v5c : call Tryd.prog T H (.fn 12) [.p (.agg [.sl none 1 [[iv 0], [iv 2]]]), .p (iv 5)] [] = some (.ret (.p (.tup [.sl none 2 (List.map row_Tree v5.1), iv v5.2])), []) := by have q := spec12 n (Alphabet.mk [0, 2]) 5 v5 e_v5; simp only [List.map_cons, List.map_nil, rowI] at q ⊢; exact q
  obtain ⟨v6, e_v6, h⟩ := ob h
  have e_v6c : call Tryd.prog T H (.fn 27) [.p (.agg [.sl none 1 [[iv 0], [iv 2]]]), .p (.agg [iv v3.Sym, .sl none 2 (List.map row_Tree v3.Kids)])] [] = some (.ret (.p (.tup [.sl none 1 (List.map (rowL 1 rowI) v6.1), iv v6.2])), []) := by have q := spec27 n (Alphabet.mk [0, 2]) v3 v6 e_v6; simp only [List.map_cons, List.map_nil, rowI] at q ⊢; exact q
  by_cases c1 : v5.2 = 0
  · have h := iteT h c1
    have c1b : (v5.2 == 0) = true := beqT c1
    obtain ⟨v7, e_v7, h⟩ := ob h
    have e_v7c : call Tryd.prog T H (.fn 14) [.p (.sl none 2 (List.map row_Tree v5.1)), .p (.sl none 2 [[iv v3.Sym, .sl none 2 (List.map row_Tree v3.Kids)], [iv v4.Sym, .sl none 2 (List.map row_Tree v4.Kids)]])] [] = some (.ret (.p (bv v7)), []) := by have q := spec14 n v5.1 [v3, v4] v7 e_v7; simp only [List.map_cons, List.map_nil, row_Tree_eq] at q ⊢; exact q
    by_cases c2 : v7 = true
    · have h := iteT h c2
      obtain ⟨v8, e_v8, h⟩ := ob h
      have e_v8c : call Tryd.prog T H (.fn 11) [.p (.agg [iv v3.Sym, .sl none 2 (List.map row_Tree v3.Kids)]), .p (.agg [iv v4.Sym, .sl none 2 (List.map row_Tree v4.Kids)])] [] = some (.ret (.p (iv v8)), []) := spec11 n v3 v4 v8 e_v8
      by_cases c3 : v8 = (-1)
      · have h := iteT h c3
        have c3b : (v8 == (-1)) = true := beqT c3
        by_cases c4 : v6.2 = 0
        · have h := iteT h c4
          have c4b : (v6.2 == 0) = true := beqT c4
          obtain ⟨v9, e_v9, h⟩ := ob h
          have e_v9c : call Tryd.prog T H (.fn 33) [.p (.sl none 1 (List.map (rowL 1 rowI) v6.1)), .p (.sl none 1 [[.sl none 1 []], [.sl none 1 [[iv 0]]], [.sl none 1 [[iv 1]]], [.sl none 1 [[iv 1], [iv 0]]], [.sl none 1 [[iv 1], [iv 1]]]])] [] = some (.ret (.p (bv v9)), []) := by have q := spec33 v6.1 [([] : List Int), [0], [1], [1, 0], [1, 1]] v9 e_v9; simp only [List.map_cons, List.map_nil, rowI, rowL] at q ⊢; exact q
          simp only [go_sem, e_v1c, e_v2c, e_v3c, e_v4c, e_v5c, e_v6c, c1b, e_v7c, c2, e_v8c, c3b, c4b, e_v9c]
          injection h with h; subst h
          exact Sat.ok hQ
        · have h := iteF h c4
          have c4b : (v6.2 == 0) = false := beqF c4
          simp only [go_sem, e_v1c, e_v2c, e_v3c, e_v4c, e_v5c, e_v6c, c1b, e_v7c, c2, e_v8c, c3b, c4b]
          injection h with h; subst h
          exact Sat.ok hQ
      · have h := iteF h c3
        have c3b : (v8 == (-1)) = false := beqF c3
        simp only [go_sem, e_v1c, e_v2c, e_v3c, e_v4c, e_v5c, e_v6c, c1b, e_v7c, c2, e_v8c, c3b]
        injection h with h; subst h
        exact Sat.ok hQ
    · have h := iteF h c2
      have c2 := eq_false_of_ne_true c2
      simp only [go_sem, e_v1c, e_v2c, e_v3c, e_v4c, e_v5c, e_v6c, c1b, e_v7c, c2]
      injection h with h; subst h
      exact Sat.ok hQ
  · have h := iteF h c1
    have c1b : (v5.2 == 0) = false := beqF c1
    simp only [go_sem, e_v1c, e_v2c, e_v3c, e_v4c, e_v5c, e_v6c, c1b]
    injection h with h; subst h
    exact Sat.ok hQ

def law01_TreeOrder (n : Nat) (a0 : Tree) (a1 : Tree) (a2 : Tree) : Option Bool :=
  (law01_few n (Alphabet.mk [0, 2]) [a0, a1, a2]).bind fun v1 =>
  if v1 = true then
    (tree_Compare n a0 a1).bind fun v2 =>
    if 0 < v2 then
      (law01_awake n).bind fun v3 =>
      some v3
    else
      (tree_Compare n a1 a2).bind fun v4 =>
      if 0 < v4 then
        (law01_awake n).bind fun v5 =>
        some v5
      else
        (tree_Compare n a0 a2).bind fun v6 =>
        if v6 ≤ 0 then
          (law01_awake n).bind fun v7 =>
          some v7
        else
          some false
  else
    (law01_awake n).bind fun v8 =>
    some v8
theorem spec3 (n : Nat) (a0 : Tree) (a1 : Tree) (a2 : Tree) (r : Bool) (h : law01_TreeOrder n a0 a1 a2 = some r) :
    call Tryd.prog T H (.fn 3) [.p (.agg [iv a0.Sym, .sl none 2 (List.map row_Tree a0.Kids)]), .p (.agg [iv a1.Sym, .sl none 2 (List.map row_Tree a1.Kids)]), .p (.agg [iv a2.Sym, .sl none 2 (List.map row_Tree a2.Kids)])] [] = some (.ret (.p (bv r)), []) := by
  refine Sat.fn fun Q hQ => ?_
  unfold law01_TreeOrder at h
  rw [call3]
  conv => arg 1; arg 7; unfold S01.c3 Tryd.f3; simp only [Option.getD_some]
  obtain ⟨v1, e_v1, h⟩ := ob h
  have e_v1c : call Tryd.prog T H (.fn 9) [.p (.agg [.sl none 1 [[iv 0], [iv 2]]]), .p (.sl none 2 [[iv a0.Sym, .sl none 2 (List.map row_Tree a0.Kids)], [iv a1.Sym, .sl none 2 (List.map row_Tree a1.Kids)], [iv a2.Sym, .sl none 2 (List.map row_Tree a2.Kids)]])] [] = some (.ret (.p (bv v1)), []) := by have q := spec9 n (Alphabet.mk [0, 2]) [a0, a1, a2] v1 e_v1; simp only [List.map_cons, List.map_nil, rowI, row_Tree_eq] at q ⊢; exact q
  by_cases c1 : v1 = true
  · have h := iteT h c1
    obtain ⟨v2, e_v2, h⟩ := ob h
    have e_v2c : call Tryd.prog T H (.fn 11) [.p (.agg [iv a0.Sym, .sl none 2 (List.map row_Tree a0.Kids)]), .p (.agg [iv a1.Sym, .sl none 2 (List.map row_Tree a1.Kids)])] [] = some (.ret (.p (iv v2)), []) := spec11 n a0 a1 v2 e_v2
    by_cases c2 : 0 < v2
    · have h := iteT h c2
      obtain ⟨v3, e_v3, h⟩ := ob h
      have e_v3c : call Tryd.prog T H (.fn 10) [] [] = some (.ret (.p (bv v3)), []) := spec10 n v3 e_v3
      simp only [go_sem, e_v1c, c1, e_v2c, c2, e_v3c]
      injection h with h; subst h
      exact Sat.ok hQ
    · have h := iteF h c2
      obtain ⟨v4, e_v4, h⟩ := ob h
      have e_v4c : call Tryd.prog T H (.fn 11) [.p (.agg [iv a1.Sym, .sl none 2 (List.map row_Tree a1.Kids)]), .p (.agg [iv a2.Sym, .sl none 2 (List.map row_Tree a2.Kids)])] [] = some (.ret (.p (iv v4)), []) := spec11 n a1 a2 v4 e_v4
      by_cases c3 : 0 < v4
      · have h := iteT h c3
        obtain ⟨v5, e_v5, h⟩ := ob h
        have e_v5c : call Tryd.prog T H (.fn 10) [] [] = some (.ret (.p (bv v5)), []) := spec10 n v5 e_v5
        simp only [go_sem, e_v1c, c1, e_v2c, c2, e_v4c, c3, e_v5c]
        injection h with h; subst h
        exact Sat.ok hQ
      · have h := iteF h c3
        obtain ⟨v6, e_v6, h⟩ := ob h
        have e_v6c : call Tryd.prog T H (.fn 11) [.p (.agg [iv a0.Sym, .sl none 2 (List.map row_Tree a0.Kids)]), .p (.agg [iv a2.Sym, .sl none 2 (List.map row_Tree a2.Kids)])] [] = some (.ret (.p (iv v6)), []) := spec11 n a0 a2 v6 e_v6
        by_cases c4 : v6 ≤ 0
        · have h := iteT h c4
          obtain ⟨v7, e_v7, h⟩ := ob h
          have e_v7c : call Tryd.prog T H (.fn 10) [] [] = some (.ret (.p (bv v7)), []) := spec10 n v7 e_v7
          simp only [go_sem, e_v1c, c1, e_v2c, c2, e_v4c, c3, e_v6c, c4, e_v7c]
          injection h with h; subst h
          exact Sat.ok hQ
        · have h := iteF h c4
          simp only [go_sem, e_v1c, c1, e_v2c, c2, e_v4c, c3, e_v6c, c4]
          injection h with h; subst h
          exact Sat.ok hQ
  · have h := iteF h c1
    have c1 := eq_false_of_ne_true c1
    obtain ⟨v8, e_v8, h⟩ := ob h
    have e_v8c : call Tryd.prog T H (.fn 10) [] [] = some (.ret (.p (bv v8)), []) := spec10 n v8 e_v8
    simp only [go_sem, e_v1c, c1, e_v8c]
    injection h with h; subst h
    exact Sat.ok hQ

def law01_TreeForms (n : Nat) (a0 : Alphabet) (a1 : Tree) (a2 : Tree) (a3 : Str) : Option Bool :=
  (law01_few n a0 [a1, a2]).bind fun v1 =>
  if v1 = true then
    (tree_ValidAlphabet a0).bind fun v2 =>
    (ref01_ValidAlphabet a0).bind fun v3 =>
    if v2 = v3 then
      (tree_Valid n a0 a1).bind fun v4 =>
      (ref01_Valid n a0 a1).bind fun v5 =>
      if v4 = v5 then
        (tree_Size n a1).bind fun v6 =>
        (ref01_Size n a1).bind fun v7 =>
        if v6 = v7 then
          (tree_Depth n a1).bind fun v8 =>
          (ref01_Depth n a1).bind fun v9 =>
          if v8 = v9 then
            (tree_Compare n a1 a2).bind fun v10 =>
            (ref01_Compare n a1 a2).bind fun v11 =>
            if v10 = v11 then
              (tree_Compare n a2 a1).bind fun v12 =>
              if v10 = (IntKind.i64.wrap (0 - v12)) then
                (ref01_Same n a1 a2).bind fun v13 =>
                if (v10 == 0) = v13 then
                  (tree_Name a3).bind fun v14 =>
                  (ref01_Name n a3).bind fun v15 =>
                  if v14 = v15 then
                    (law01_awake n).bind fun v16 =>
                    some v16
                  else
                    some false
                else
                  some false
              else
                some false
            else
              some false
          else
            some false
        else
          some false
      else
        some false
    else
      some false
  else
    (law01_awake n).bind fun v17 =>
    some v17
theorem spec5 (n : Nat) (a0 : Alphabet) (a1 : Tree) (a2 : Tree) (a3 : Str) (r : Bool) (h : law01_TreeForms n a0 a1 a2 a3 = some r) :
    call Tryd.prog T H (.fn 5) [.p (.agg [.sl none 1 (List.map rowI a0.Ranks)]), .p (.agg [iv a1.Sym, .sl none 2 (List.map row_Tree a1.Kids)]), .p (.agg [iv a2.Sym, .sl none 2 (List.map row_Tree a2.Kids)]), .p (.lit (.string (bs a3)))] [] = some (.ret (.p (bv r)), []) := by
  refine Sat.fn fun Q hQ => ?_
  unfold law01_TreeForms at h
  rw [call5]
  conv => arg 1; arg 7; unfold S01.c5 Tryd.f5; simp only [Option.getD_some]
  obtain ⟨v1, e_v1, h⟩ := ob h
  have e_v1c : call Tryd.prog T H (.fn 9) [.p (.agg [.sl none 1 (List.map rowI a0.Ranks)]), .p (.sl none 2 [[iv a1.Sym, .sl none 2 (List.map row_Tree a1.Kids)], [iv a2.Sym, .sl none 2 (List.map row_Tree a2.Kids)]])] [] = some (.ret (.p (bv v1)), []) := by have q := spec9 n a0 [a1, a2] v1 e_v1; simp only [List.map_cons, List.map_nil, row_Tree_eq] at q ⊢; exact q
  by_cases c1 : v1 = true
  · have h := iteT h c1
    obtain ⟨v2, e_v2, h⟩ := ob h
    have e_v2c : call Tryd.prog T H (.fn 15) [.p (.agg [.sl none 1 (List.map rowI a0.Ranks)])] [] = some (.ret (.p (bv v2)), []) := spec15 a0 v2 e_v2
    obtain ⟨v3, e_v3, h⟩ := ob h
    have e_v3c : call Tryd.prog T H (.fn 16) [.p (.agg [.sl none 1 (List.map rowI a0.Ranks)])] [] = some (.ret (.p (bv v3)), []) := spec16 a0 v3 e_v3
    by_cases c2 : v2 = v3
    · have h := iteT h c2
      have c2b : (v2 != v3) = false := bneF c2
      obtain ⟨v4, e_v4, h⟩ := ob h
      have e_v4c : call Tryd.prog T H (.fn 17) [.p (.agg [.sl none 1 (List.map rowI a0.Ranks)]), .p (.agg [iv a1.Sym, .sl none 2 (List.map row_Tree a1.Kids)])] [] = some (.ret (.p (bv v4)), []) := spec17 n a0 a1 v4 e_v4
      obtain ⟨v5, e_v5, h⟩ := ob h
      have e_v5c : call Tryd.prog T H (.fn 18) [.p (.agg [.sl none 1 (List.map rowI a0.Ranks)]), .p (.agg [iv a1.Sym, .sl none 2 (List.map row_Tree a1.Kids)])] [] = some (.ret (.p (bv v5)), []) := spec18 n a0 a1 v5 e_v5
      by_cases c3 : v4 = v5
      · have h := iteT h c3
        have c3b : (v4 != v5) = false := bneF c3
        obtain ⟨v6, e_v6, h⟩ := ob h
        have e_v6c : call Tryd.prog T H (.fn 19) [.p (.agg [iv a1.Sym, .sl none 2 (List.map row_Tree a1.Kids)])] [] = some (.ret (.p (iv v6)), []) := spec19 n a1 v6 e_v6
        obtain ⟨v7, e_v7, h⟩ := ob h
        have e_v7c : call Tryd.prog T H (.fn 20) [.p (.agg [iv a1.Sym, .sl none 2 (List.map row_Tree a1.Kids)])] [] = some (.ret (.p (iv v7)), []) := spec20 n a1 v7 e_v7
        by_cases c4 : v6 = v7
        · have h := iteT h c4
          have c4b : (v6 != v7) = false := bneF c4
          obtain ⟨v8, e_v8, h⟩ := ob h
          have e_v8c : call Tryd.prog T H (.fn 21) [.p (.agg [iv a1.Sym, .sl none 2 (List.map row_Tree a1.Kids)])] [] = some (.ret (.p (iv v8)), []) := spec21 n a1 v8 e_v8
          obtain ⟨v9, e_v9, h⟩ := ob h
          have e_v9c : call Tryd.prog T H (.fn 22) [.p (.agg [iv a1.Sym, .sl none 2 (List.map row_Tree a1.Kids)])] [] = some (.ret (.p (iv v9)), []) := spec22 n a1 v9 e_v9
          by_cases c5 : v8 = v9
          · have h := iteT h c5
            have c5b : (v8 != v9) = false := bneF c5
            obtain ⟨v10, e_v10, h⟩ := ob h
            have e_v10c : call Tryd.prog T H (.fn 11) [.p (.agg [iv a1.Sym, .sl none 2 (List.map row_Tree a1.Kids)]), .p (.agg [iv a2.Sym, .sl none 2 (List.map row_Tree a2.Kids)])] [] = some (.ret (.p (iv v10)), []) := spec11 n a1 a2 v10 e_v10
            obtain ⟨v11, e_v11, h⟩ := ob h
            have e_v11c : call Tryd.prog T H (.fn 23) [.p (.agg [iv a1.Sym, .sl none 2 (List.map row_Tree a1.Kids)]), .p (.agg [iv a2.Sym, .sl none 2 (List.map row_Tree a2.Kids)])] [] = some (.ret (.p (iv v11)), []) := spec23 n a1 a2 v11 e_v11
            by_cases c6 : v10 = v11
            · have h := iteT h c6
              have c6b : (v10 == v11) = true := beqT c6
              obtain ⟨v12, e_v12, h⟩ := ob h
              have e_v12c : call Tryd.prog T H (.fn 11) [.p (.agg [iv a2.Sym, .sl none 2 (List.map row_Tree a2.Kids)]), .p (.agg [iv a1.Sym, .sl none 2 (List.map row_Tree a1.Kids)])] [] = some (.ret (.p (iv v12)), []) := spec11 n a2 a1 v12 e_v12
              by_cases c7 : v10 = (IntKind.i64.wrap (0 - v12))
              · have h := iteT h c7
                have c7b : (v10 == (IntKind.i64.wrap (0 - v12))) = true := beqT c7
                obtain ⟨v13, e_v13, h⟩ := ob h
                have e_v13c : call Tryd.prog T H (.fn 24) [.p (.agg [iv a1.Sym, .sl none 2 (List.map row_Tree a1.Kids)]), .p (.agg [iv a2.Sym, .sl none 2 (List.map row_Tree a2.Kids)])] [] = some (.ret (.p (bv v13)), []) := spec24 n a1 a2 v13 e_v13
                by_cases c8 : (v10 == 0) = v13
                · have h := iteT h c8
                  have c8b : ((v10 == 0) == v13) = true := beqT c8
                  obtain ⟨v14, e_v14, h⟩ := ob h
                  have e_v14c : call Tryd.prog T H (.fn 25) [.p (.lit (.string (bs a3)))] [] = some (.ret (.p (bv v14)), []) := spec25 a3 v14 e_v14
                  obtain ⟨v15, e_v15, h⟩ := ob h
                  have e_v15c : call Tryd.prog T H (.fn 26) [.p (.lit (.string (bs a3)))] [] = some (.ret (.p (bv v15)), []) := spec26 n a3 v15 e_v15
                  by_cases c9 : v14 = v15
                  · have h := iteT h c9
                    have c9b : (v14 == v15) = true := beqT c9
                    obtain ⟨v16, e_v16, h⟩ := ob h
                    have e_v16c : call Tryd.prog T H (.fn 10) [] [] = some (.ret (.p (bv v16)), []) := spec10 n v16 e_v16
                    simp only [go_sem, e_v1c, c1, e_v2c, e_v3c, c2b, e_v4c, e_v5c, c3b, e_v6c, e_v7c, c4b, e_v8c, e_v9c, c5b, e_v10c, e_v11c, c6b, e_v12c, c7b, e_v13c, c8b, e_v14c, e_v15c, c9b, e_v16c]
                    injection h with h; subst h
                    exact Sat.ok hQ
                  · have h := iteF h c9
                    have c9b : (v14 == v15) = false := beqF c9
                    simp only [go_sem, e_v1c, c1, e_v2c, e_v3c, c2b, e_v4c, e_v5c, c3b, e_v6c, e_v7c, c4b, e_v8c, e_v9c, c5b, e_v10c, e_v11c, c6b, e_v12c, c7b, e_v13c, c8b, e_v14c, e_v15c, c9b]
                    injection h with h; subst h
                    exact Sat.ok hQ
                · have h := iteF h c8
                  have c8b : ((v10 == 0) == v13) = false := beqF c8
                  simp only [go_sem, e_v1c, c1, e_v2c, e_v3c, c2b, e_v4c, e_v5c, c3b, e_v6c, e_v7c, c4b, e_v8c, e_v9c, c5b, e_v10c, e_v11c, c6b, e_v12c, c7b, e_v13c, c8b]
                  injection h with h; subst h
                  exact Sat.ok hQ
              · have h := iteF h c7
                have c7b : (v10 == (IntKind.i64.wrap (0 - v12))) = false := beqF c7
                simp only [go_sem, e_v1c, c1, e_v2c, e_v3c, c2b, e_v4c, e_v5c, c3b, e_v6c, e_v7c, c4b, e_v8c, e_v9c, c5b, e_v10c, e_v11c, c6b, e_v12c, c7b]
                injection h with h; subst h
                exact Sat.ok hQ
            · have h := iteF h c6
              have c6b : (v10 == v11) = false := beqF c6
              simp only [go_sem, e_v1c, c1, e_v2c, e_v3c, c2b, e_v4c, e_v5c, c3b, e_v6c, e_v7c, c4b, e_v8c, e_v9c, c5b, e_v10c, e_v11c, c6b]
              injection h with h; subst h
              exact Sat.ok hQ
          · have h := iteF h c5
            have c5b : (v8 != v9) = true := bneT c5
            simp only [go_sem, e_v1c, c1, e_v2c, e_v3c, c2b, e_v4c, e_v5c, c3b, e_v6c, e_v7c, c4b, e_v8c, e_v9c, c5b]
            injection h with h; subst h
            exact Sat.ok hQ
        · have h := iteF h c4
          have c4b : (v6 != v7) = true := bneT c4
          simp only [go_sem, e_v1c, c1, e_v2c, e_v3c, c2b, e_v4c, e_v5c, c3b, e_v6c, e_v7c, c4b]
          injection h with h; subst h
          exact Sat.ok hQ
      · have h := iteF h c3
        have c3b : (v4 != v5) = true := bneT c3
        simp only [go_sem, e_v1c, c1, e_v2c, e_v3c, c2b, e_v4c, e_v5c, c3b]
        injection h with h; subst h
        exact Sat.ok hQ
    · have h := iteF h c2
      have c2b : (v2 != v3) = true := bneT c2
      simp only [go_sem, e_v1c, c1, e_v2c, e_v3c, c2b]
      injection h with h; subst h
      exact Sat.ok hQ
  · have h := iteF h c1
    have c1 := eq_false_of_ne_true c1
    obtain ⟨v17, e_v17, h⟩ := ob h
    have e_v17c : call Tryd.prog T H (.fn 10) [] [] = some (.ret (.p (bv v17)), []) := spec10 n v17 e_v17
    simp only [go_sem, e_v1c, c1, e_v17c]
    injection h with h; subst h
    exact Sat.ok hQ

def law01_TreePuts (n : Nat) (a0 : Alphabet) (a1 : Tree) (a2 : Tree) (a3 : List Int) : Option Bool :=
  (law01_few n a0 [a1, a2]).bind fun v1 =>
  if v1 = true then
    if 400 < (a3.length : Int) then
      (law01_awake n).bind fun v2 =>
      some v2
    else
      (tree_Put n a0 a1 a3 a2).bind fun v3 =>
      if v3.2 = 0 then
        (tree_At n a0 v3.1 a3).bind fun v4 =>
        if v4.2 = 0 then
          (ref01_Same n v4.1 a2).bind fun v5 =>
          if v5 = true then
            (tree_At n a0 a1 a3).bind fun v6 =>
            if v6.2 = 0 then
              (tree_Put n a0 a1 a3 v6.1).bind fun v7 =>
              if v7.2 = 0 then
                (ref01_Same n v7.1 a1).bind fun v8 =>
                if v8 = true then
                  (law01_awake n).bind fun v9 =>
                  some v9
                else
                  some false
              else
                some false
            else
              (law01_awake n).bind fun v10 =>
              some v10
          else
            some false
        else
          some false
      else
        (tree_At n a0 a1 a3).bind fun v11 =>
        if v11.2 = 0 then
          (tree_Put n a0 a1 a3 v11.1).bind fun v12 =>
          if v12.2 = 0 then
            (ref01_Same n v12.1 a1).bind fun v13 =>
            if v13 = true then
              (law01_awake n).bind fun v14 =>
              some v14
            else
              some false
          else
            some false
        else
          (law01_awake n).bind fun v15 =>
          some v15
  else
    (law01_awake n).bind fun v16 =>
    some v16
theorem spec7 (n : Nat) (a0 : Alphabet) (a1 : Tree) (a2 : Tree) (a3 : List Int) (r : Bool) (h : law01_TreePuts n a0 a1 a2 a3 = some r) :
    call Tryd.prog T H (.fn 7) [.p (.agg [.sl none 1 (List.map rowI a0.Ranks)]), .p (.agg [iv a1.Sym, .sl none 2 (List.map row_Tree a1.Kids)]), .p (.agg [iv a2.Sym, .sl none 2 (List.map row_Tree a2.Kids)]), .p (.sl none 1 (List.map rowI a3))] [] = some (.ret (.p (bv r)), []) := by
  refine Sat.fn fun Q hQ => ?_
  unfold law01_TreePuts at h
  rw [call7]
  conv => arg 1; arg 7; unfold S01.c7 Tryd.f7; simp only [Option.getD_some]
  obtain ⟨v1, e_v1, h⟩ := ob h
  have e_v1c : call Tryd.prog T H (.fn 9) [.p (.agg [.sl none 1 (List.map rowI a0.Ranks)]), .p (.sl none 2 [[iv a1.Sym, .sl none 2 (List.map row_Tree a1.Kids)], [iv a2.Sym, .sl none 2 (List.map row_Tree a2.Kids)]])] [] = some (.ret (.p (bv v1)), []) := by have q := spec9 n a0 [a1, a2] v1 e_v1; simp only [List.map_cons, List.map_nil, row_Tree_eq] at q ⊢; exact q
  by_cases c1 : v1 = true
  · have h := iteT h c1
    by_cases c2 : 400 < (a3.length : Int)
    · have h := iteT h c2
      obtain ⟨v2, e_v2, h⟩ := ob h
      have e_v2c : call Tryd.prog T H (.fn 10) [] [] = some (.ret (.p (bv v2)), []) := spec10 n v2 e_v2
      simp only [go_sem, e_v1c, c1, c2, e_v2c]
      injection h with h; subst h
      exact Sat.ok hQ
    · have h := iteF h c2
      obtain ⟨v3, e_v3, h⟩ := ob h
      have e_v3c : call Tryd.prog T H (.fn 31) [.p (.agg [.sl none 1 (List.map rowI a0.Ranks)]), .p (.agg [iv a1.Sym, .sl none 2 (List.map row_Tree a1.Kids)]), .p (.sl none 1 (List.map rowI a3)), .p (.agg [iv a2.Sym, .sl none 2 (List.map row_Tree a2.Kids)])] [] = some (.ret (.p (.tup [.agg [iv v3.1.Sym, .sl none 2 (List.map row_Tree v3.1.Kids)], iv v3.2])), []) := spec31 n a0 a1 a3 a2 v3 e_v3
      by_cases c3 : v3.2 = 0
      · have h := iteT h c3
        have c3b : (v3.2 == 0) = true := beqT c3
        obtain ⟨v4, e_v4, h⟩ := ob h
        have e_v4c : call Tryd.prog T H (.fn 29) [.p (.agg [.sl none 1 (List.map rowI a0.Ranks)]), .p (.agg [iv v3.1.Sym, .sl none 2 (List.map row_Tree v3.1.Kids)]), .p (.sl none 1 (List.map rowI a3))] [] = some (.ret (.p (.tup [.agg [iv v4.1.Sym, .sl none 2 (List.map row_Tree v4.1.Kids)], iv v4.2])), []) := spec29 n a0 v3.1 a3 v4 e_v4
        by_cases c4 : v4.2 = 0
        · have h := iteT h c4
          have c4b : (v4.2 != 0) = false := bneF c4
          obtain ⟨v5, e_v5, h⟩ := ob h
          have e_v5c : call Tryd.prog T H (.fn 24) [.p (.agg [iv v4.1.Sym, .sl none 2 (List.map row_Tree v4.1.Kids)]), .p (.agg [iv a2.Sym, .sl none 2 (List.map row_Tree a2.Kids)])] [] = some (.ret (.p (bv v5)), []) := spec24 n v4.1 a2 v5 e_v5
          by_cases c5 : v5 = true
          · have h := iteT h c5
            obtain ⟨v6, e_v6, h⟩ := ob h
            have e_v6c : call Tryd.prog T H (.fn 29) [.p (.agg [.sl none 1 (List.map rowI a0.Ranks)]), .p (.agg [iv a1.Sym, .sl none 2 (List.map row_Tree a1.Kids)]), .p (.sl none 1 (List.map rowI a3))] [] = some (.ret (.p (.tup [.agg [iv v6.1.Sym, .sl none 2 (List.map row_Tree v6.1.Kids)], iv v6.2])), []) := spec29 n a0 a1 a3 v6 e_v6
            by_cases c6 : v6.2 = 0
            · have h := iteT h c6
              have c6b : (v6.2 == 0) = true := beqT c6
              obtain ⟨v7, e_v7, h⟩ := ob h
              have e_v7c : call Tryd.prog T H (.fn 31) [.p (.agg [.sl none 1 (List.map rowI a0.Ranks)]), .p (.agg [iv a1.Sym, .sl none 2 (List.map row_Tree a1.Kids)]), .p (.sl none 1 (List.map rowI a3)), .p (.agg [iv v6.1.Sym, .sl none 2 (List.map row_Tree v6.1.Kids)])] [] = some (.ret (.p (.tup [.agg [iv v7.1.Sym, .sl none 2 (List.map row_Tree v7.1.Kids)], iv v7.2])), []) := spec31 n a0 a1 a3 v6.1 v7 e_v7
              by_cases c7 : v7.2 = 0
              · have h := iteT h c7
                have c7b : (v7.2 != 0) = false := bneF c7
                obtain ⟨v8, e_v8, h⟩ := ob h
                have e_v8c : call Tryd.prog T H (.fn 24) [.p (.agg [iv v7.1.Sym, .sl none 2 (List.map row_Tree v7.1.Kids)]), .p (.agg [iv a1.Sym, .sl none 2 (List.map row_Tree a1.Kids)])] [] = some (.ret (.p (bv v8)), []) := spec24 n v7.1 a1 v8 e_v8
                by_cases c8 : v8 = true
                · have h := iteT h c8
                  obtain ⟨v9, e_v9, h⟩ := ob h
                  have e_v9c : call Tryd.prog T H (.fn 10) [] [] = some (.ret (.p (bv v9)), []) := spec10 n v9 e_v9
                  simp only [go_sem, e_v1c, c1, c2, e_v3c, c3b, e_v4c, c4b, e_v5c, c5, e_v6c, c6b, e_v7c, c7b, e_v8c, c8, e_v9c]
                  injection h with h; subst h
                  exact Sat.ok hQ
                · have h := iteF h c8
                  have c8 := eq_false_of_ne_true c8
                  simp only [go_sem, e_v1c, c1, c2, e_v3c, c3b, e_v4c, c4b, e_v5c, c5, e_v6c, c6b, e_v7c, c7b, e_v8c, c8]
                  injection h with h; subst h
                  exact Sat.ok hQ
              · have h := iteF h c7
                have c7b : (v7.2 != 0) = true := bneT c7
                simp only [go_sem, e_v1c, c1, c2, e_v3c, c3b, e_v4c, c4b, e_v5c, c5, e_v6c, c6b, e_v7c, c7b]
                injection h with h; subst h
                exact Sat.ok hQ
            · have h := iteF h c6
              have c6b : (v6.2 == 0) = false := beqF c6
              obtain ⟨v10, e_v10, h⟩ := ob h
              have e_v10c : call Tryd.prog T H (.fn 10) [] [] = some (.ret (.p (bv v10)), []) := spec10 n v10 e_v10
              simp only [go_sem, e_v1c, c1, c2, e_v3c, c3b, e_v4c, c4b, e_v5c, c5, e_v6c, c6b, e_v10c]
              injection h with h; subst h
              exact Sat.ok hQ
          · have h := iteF h c5
            have c5 := eq_false_of_ne_true c5
            simp only [go_sem, e_v1c, c1, c2, e_v3c, c3b, e_v4c, c4b, e_v5c, c5]
            injection h with h; subst h
            exact Sat.ok hQ
        · have h := iteF h c4
          have c4b : (v4.2 != 0) = true := bneT c4
          simp only [go_sem, e_v1c, c1, c2, e_v3c, c3b, e_v4c, c4b]
          injection h with h; subst h
          exact Sat.ok hQ
      · have h := iteF h c3
        have c3b : (v3.2 == 0) = false := beqF c3
        obtain ⟨v11, e_v11, h⟩ := ob h
        have e_v11c : call Tryd.prog T H (.fn 29) [.p (.agg [.sl none 1 (List.map rowI a0.Ranks)]), .p (.agg [iv a1.Sym, .sl none 2 (List.map row_Tree a1.Kids)]), .p (.sl none 1 (List.map rowI a3))] [] = some (.ret (.p (.tup [.agg [iv v11.1.Sym, .sl none 2 (List.map row_Tree v11.1.Kids)], iv v11.2])), []) := spec29 n a0 a1 a3 v11 e_v11
        by_cases c9 : v11.2 = 0
        · have h := iteT h c9
          have c9b : (v11.2 == 0) = true := beqT c9
          obtain ⟨v12, e_v12, h⟩ := ob h
          have e_v12c : call Tryd.prog T H (.fn 31) [.p (.agg [.sl none 1 (List.map rowI a0.Ranks)]), .p (.agg [iv a1.Sym, .sl none 2 (List.map row_Tree a1.Kids)]), .p (.sl none 1 (List.map rowI a3)), .p (.agg [iv v11.1.Sym, .sl none 2 (List.map row_Tree v11.1.Kids)])] [] = some (.ret (.p (.tup [.agg [iv v12.1.Sym, .sl none 2 (List.map row_Tree v12.1.Kids)], iv v12.2])), []) := spec31 n a0 a1 a3 v11.1 v12 e_v12
          by_cases c10 : v12.2 = 0
          · have h := iteT h c10
            have c10b : (v12.2 != 0) = false := bneF c10
            obtain ⟨v13, e_v13, h⟩ := ob h
            have e_v13c : call Tryd.prog T H (.fn 24) [.p (.agg [iv v12.1.Sym, .sl none 2 (List.map row_Tree v12.1.Kids)]), .p (.agg [iv a1.Sym, .sl none 2 (List.map row_Tree a1.Kids)])] [] = some (.ret (.p (bv v13)), []) := spec24 n v12.1 a1 v13 e_v13
            by_cases c11 : v13 = true
            · have h := iteT h c11
              obtain ⟨v14, e_v14, h⟩ := ob h
              have e_v14c : call Tryd.prog T H (.fn 10) [] [] = some (.ret (.p (bv v14)), []) := spec10 n v14 e_v14
              simp only [go_sem, e_v1c, c1, c2, e_v3c, c3b, e_v11c, c9b, e_v12c, c10b, e_v13c, c11, e_v14c]
              injection h with h; subst h
              exact Sat.ok hQ
            · have h := iteF h c11
              have c11 := eq_false_of_ne_true c11
              simp only [go_sem, e_v1c, c1, c2, e_v3c, c3b, e_v11c, c9b, e_v12c, c10b, e_v13c, c11]
              injection h with h; subst h
              exact Sat.ok hQ
          · have h := iteF h c10
            have c10b : (v12.2 != 0) = true := bneT c10
            simp only [go_sem, e_v1c, c1, c2, e_v3c, c3b, e_v11c, c9b, e_v12c, c10b]
            injection h with h; subst h
            exact Sat.ok hQ
        · have h := iteF h c9
          have c9b : (v11.2 == 0) = false := beqF c9
          obtain ⟨v15, e_v15, h⟩ := ob h
          have e_v15c : call Tryd.prog T H (.fn 10) [] [] = some (.ret (.p (bv v15)), []) := spec10 n v15 e_v15
          simp only [go_sem, e_v1c, c1, c2, e_v3c, c3b, e_v11c, c9b, e_v15c]
          injection h with h; subst h
          exact Sat.ok hQ
  · have h := iteF h c1
    have c1 := eq_false_of_ne_true c1
    obtain ⟨v16, e_v16, h⟩ := ob h
    have e_v16c : call Tryd.prog T H (.fn 10) [] [] = some (.ret (.p (bv v16)), []) := spec10 n v16 e_v16
    simp only [go_sem, e_v1c, c1, e_v16c]
    injection h with h; subst h
    exact Sat.ok hQ

end Go.AM.S01

namespace Go.AM.S01
open Go Go.Proofs Go.AM
set_option linter.unusedVariables false
theorem w64_eq {n : Int} (h1 : -9223372036854775808 ≤ n) (h2 : n ≤ 9223372036854775807) : w64 n = n := wrapN h1 h2
theorem app_ok {α : Type} {b : Nat} {xs ys : List α} (h : (xs.length + ys.length) * b ≤ 70368744177664) : app b xs ys = some (xs ++ ys) := if_pos h
mutual
def tsT : Tree → Nat
  | .mk _ k => 1 + tsL k
def tsL : List Tree → Nat
  | [] => 0
  | x :: r => tsT x + tsL r
end
mutual
def tdT : Tree → Nat
  | .mk _ k => tdL k
def tdL : List Tree → Nat
  | [] => 0
  | x :: r => max (tdT x + 1) (tdL r)
end
mutual
def twT : Tree → Bool
  | .mk _ k => decide (k.length < 9223372036854775808) && twL k
def twL : List Tree → Bool
  | [] => true
  | x :: r => twT x && twL r
end
theorem tsT_eq (t : Tree) : tsT t = 1 + tsL t.Kids := by cases t; rw [tsT]
theorem tdT_eq (t : Tree) : tdT t = tdL t.Kids := by cases t; rw [tdT]
theorem twT_eq (t : Tree) : twT t = (decide (t.Kids.length < 9223372036854775808) && twL t.Kids) := by cases t; rw [twT]
theorem tlen : ∀ l : List Tree, l.length ≤ tsL l
  | [] => Nat.zero_le _
  | x :: r => by rw [tsL, List.length_cons, tsT_eq]; have := tlen r; omega
theorem tdL_cons {x : Tree} {r : List Tree} {n : Nat} (h : tdL (x :: r) < n + 1) : tdT x < n ∧ tdL r < n + 1 := by rw [tdL] at h; omega
theorem tcount_eq : ∀ (n : Nat) (t : Tree) (m : Int), tdT t < n → twT t = true → 0 ≤ m → m ≤ 1000000 → ref01_count n t m = some (min (tsT t : Int) (m + 1)) := by
  intro n
  induction n with
  | zero => intro t m hd; omega
  | succ n ih =>
    intro t m hd hw h1 h2
    rw [twT_eq] at hw
    simp only [Bool.and_eq_true, decide_eq_true_eq] at hw
    rw [tdT_eq] at hd
    rw [ref01_count, rangeL, if_pos hw.1]
    suffices H : ∀ (l : List Tree) (i : Nat) (c : Nat) (k : Int → Option Int), 1 ≤ c → tdL l < n + 1 → twL l = true → rangeC (fun i1 x1 (s1 : Int) n1 => if s1 ≤ m then (ref01_count n x1 (w64 (m - s1))).bind fun v1 => n1 (w64 (s1 + v1)) else n1 s1) l i (min (c : Int) (m + 1)) k = k (min ((c + tsL l : Nat) : Int) (m + 1)) by
      have := H t.Kids 0 1 (fun s => some s) (by omega) hd hw.2
      rw [show min ((1 : Nat) : Int) (m + 1) = 1 by omega] at this
      rw [this, tsT_eq]
    intro l
    induction l with
    | nil => intro i c k _ _ _; rw [rangeC, tsL]; rfl
    | cons x r ihr =>
      intro i c k hc hd hw
      obtain ⟨d1, d2⟩ := tdL_cons hd
      rw [twL, Bool.and_eq_true] at hw
      rw [rangeC]
      by_cases cc : min (c : Int) (m + 1) ≤ m
      · rw [if_pos cc]
        have e : min (c : Int) (m + 1) = c := by omega
        rw [e, w64_eq (n := m - c) (by omega) (by omega), ih x _ d1 hw.1 (by omega) (by omega)]
        show rangeC _ r (i + 1) (w64 (c + min (tsT x : Int) (m - c + 1))) k = _
        rw [w64_eq (by omega) (by omega)]
        have := ihr (i + 1) (c + tsT x) k (by omega) d2 hw.2
        rw [show (c : Int) + min (tsT x : Int) (m - c + 1) = min ((c + tsT x : Nat) : Int) (m + 1) by omega, this, tsL]
        congr 2; omega
      · rw [if_neg cc]
        show rangeC _ r (i + 1) (min (c : Int) (m + 1)) k = _
        have := ihr (i + 1) (c + tsT x) k (by omega) d2 hw.2
        rw [show min (c : Int) (m + 1) = min ((c + tsT x : Nat) : Int) (m + 1) by omega, this, tsL]
        congr 2; omega
theorem tfew_eq {n : Nat} {t : Tree} {m : Int} (hd : tdT t < n) (hw : twT t = true) (h1 : 0 ≤ m) (h2 : m ≤ 1000000) : ref01_Few n t m = some (decide ((tsT t : Int) ≤ m)) := by
  rw [ref01_Few, tcount_eq n t m hd hw h1 h2]
  show some _ = some _
  congr 1
  exact decide_eq_decide.2 (by omega)
def ord (a b : Int) : Int := if a < b then -1 else if b < a then 1 else 0
theorem ord_range (a b : Int) : -1 ≤ ord a b ∧ ord a b ≤ 1 := by
  unfold ord; repeat' split
  all_goals omega
theorem ord_anti (a b : Int) : ord b a = - ord a b := by
  unfold ord; repeat' split
  all_goals omega
theorem ord_add (c a b : Int) : ord (c + a) (c + b) = ord a b := by
  unfold ord; repeat' split
  all_goals omega
def lexF (f : Tree → Tree → Int) : List Tree → List Tree → Int
  | [], [] => 0
  | [], _ :: _ => -1
  | _ :: _, [] => 1
  | a :: us, b :: bs => if f a b = 0 then lexF f us bs else f a b
def cmpF : Nat → Tree → Tree → Int
  | 0, _, _ => 0
  | n + 1, x, y => if ord (tsT x) (tsT y) = 0 then (if ord x.Sym y.Sym = 0 then lexF (cmpF n) x.Kids y.Kids else ord x.Sym y.Sym) else ord (tsT x) (tsT y)
theorem lexF_range {f : Tree → Tree → Int} (hf : ∀ a b, -1 ≤ f a b ∧ f a b ≤ 1) : ∀ us bs, -1 ≤ lexF f us bs ∧ lexF f us bs ≤ 1
  | [], [] => by rw [lexF]; omega
  | [], _ :: _ => by rw [lexF]; omega
  | _ :: _, [] => by rw [lexF]; omega
  | a :: us, b :: bs => by
    rw [lexF]
    split
    · exact lexF_range hf us bs
    · exact hf a b
theorem lexF_anti {f : Tree → Tree → Int} (hf : ∀ a b, f b a = - f a b) : ∀ us bs, lexF f bs us = - lexF f us bs
  | [], [] => by rw [lexF]; rfl
  | [], _ :: _ => by rw [lexF, lexF]; rfl
  | _ :: _, [] => by rw [lexF, lexF]
  | a :: us, b :: bs => by
    rw [lexF, lexF, hf a b]
    by_cases h : f a b = 0
    · rw [if_pos h, if_pos (by omega)]; exact lexF_anti hf us bs
    · rw [if_neg h, if_neg (by omega)]
theorem cmpF_range : ∀ n a b, -1 ≤ cmpF n a b ∧ cmpF n a b ≤ 1
  | 0, a, b => by rw [cmpF]; omega
  | n + 1, a, b => by
    rw [cmpF]
    split
    · split
      · exact lexF_range (cmpF_range n) _ _
      · exact ord_range _ _
    · exact ord_range _ _
theorem cmpF_anti : ∀ n a b, cmpF n b a = - cmpF n a b
  | 0, a, b => by rw [cmpF, cmpF]; rfl
  | n + 1, a, b => by
    rw [cmpF, cmpF, ord_anti (tsT a) (tsT b), ord_anti a.Sym b.Sym]
    by_cases h : ord (tsT a) (tsT b) = 0
    · rw [if_pos (by omega), if_pos h]
      by_cases h' : ord a.Sym b.Sym = 0
      · rw [if_pos (by omega), if_pos h']; exact lexF_anti (cmpF_anti n) _ _
      · rw [if_neg (by omega), if_neg h']
    · rw [if_neg (by omega), if_neg h]
mutual
def mzN : Tree → tree_sized
  | .mk l k => ⟨l, 1 + tsL k, mzL k⟩
def mzL : List Tree → List tree_sized
  | [] => []
  | x :: r => mzN x :: mzL r
end
theorem mzL_map : ∀ l : List Tree, mzL l = l.map mzN
  | [] => by rw [mzL]; rfl
  | x :: r => by rw [mzL, mzL_map r]; rfl
theorem mzN_eq (x : Tree) : mzN x = ⟨x.Sym, tsT x, x.Kids.map mzN⟩ := by cases x; rw [mzN, mzL_map, tsT]; congr 1
theorem measure_eq : ∀ (n : Nat) (x : Tree), tdT x < n → tsT x ≤ 100000 → tree_measure n x = some (mzN x) := by
  intro n
  induction n with
  | zero => intro x hd; omega
  | succ n ih =>
    intro x hd hs
    have hk := tlen x.Kids
    rw [tsT_eq] at hs
    rw [tree_measure, rangeL, if_pos (by omega)]
    suffices H : ∀ (l : List Tree) (i : Nat) (t : Int) (q : List tree_sized) (k : Int × List tree_sized → Option tree_sized), tdL l < n + 1 → 0 ≤ t → t + tsL l ≤ 1000000 → q.length + tsL l ≤ 1000000 → tsL l ≤ 100000 → rangeC (fun i1 x1 (s1 : Int × (List tree_sized)) n1 => (tree_measure n x1).bind fun v1 => (app 40 s1.2 [v1]).bind fun v2 => n1 (w64 (s1.1 + v1.size), v2)) l i (t, q) k = k (t + tsL l, q ++ l.map mzN) by
      rw [H x.Kids 0 1 [] _ (by rw [tdT_eq] at hd; omega) (by omega) (by omega) (by simp only [List.length_nil]; omega) (by omega), mzN_eq, tsT_eq]
      rfl
    intro l
    induction l with
    | nil => intro i t q k _ _ _ _ _; rw [rangeC, tsL]; simp
    | cons y r ihr =>
      intro i t q k h1 h2 h3 h4 h5
      obtain ⟨d1, d2⟩ := tdL_cons h1
      have hy := tsT_eq y
      rw [tsL] at h3 h4 h5
      rw [rangeC, ih y d1 (by omega)]
      simp only [Option.bind_some]
      rw [app_ok (by simp only [List.length_cons, List.length_nil]; omega)]
      simp only [Option.bind_some]
      rw [mzN_eq]
      simp only []
      rw [w64_eq (by omega) (by omega), ihr _ _ _ _ d2 (by omega) (by omega) (by rw [List.length_append]; simp only [List.length_cons, List.length_nil]; omega) (by omega)]
      rw [tsL, List.map_cons, mzN_eq y, List.append_assoc]
      congr 2
      omega
theorem compare_int (a b : Int) : cmp_Compare_int a b = some (ord a b) := by
  unfold cmp_Compare_int cmp_isNaN_int ord
  simp only [bne_self_eq_false, Option.bind_some]
  rw [if_neg (by decide), if_neg (by decide)]
  split
  · rfl
  · split <;> rfl
theorem or_int (a b : Int) : cmp_Or_int [a, b] = some (if a = 0 then b else a) := by
  unfold cmp_Or_int rangeL
  rw [if_pos (by simp only [List.length_cons, List.length_nil]; omega)]
  simp only [rangeC]
  by_cases h : a = 0
  · rw [if_pos h, if_pos h]
    by_cases h' : b = 0
    · rw [if_pos h', h']
    · rw [if_neg h']
  · rw [if_neg h, if_neg h]
theorem hcompare_eq : ∀ (n : Nat) (x y : Tree), tdT x < n → tsT x ≤ 100000 → tsT y ≤ 100000 → tree_compare n (mzN x) (mzN y) = some (cmpF n x y) := by
  intro n
  induction n with
  | zero => intro x y hd; omega
  | succ n ih =>
    intro x y hd hx hy
    have hk := tlen x.Kids
    have hk' := tlen y.Kids
    rw [tree_compare, mzN_eq x, mzN_eq y]
    simp only []
    rw [compare_int, compare_int]
    simp only [Option.bind_some]
    rw [or_int, cmpF]
    simp only [Option.bind_some]
    by_cases c1 : ord (tsT x) (tsT y) = 0
    · rw [if_pos c1, if_pos c1]
      by_cases c2 : ord x.Sym y.Sym = 0
      · rw [if_pos c2, if_pos c2]
        rw [tsT_eq] at hx hy
        simp only [jn]
        rw [rangeL, if_pos (by rw [List.length_map]; omega)]
        suffices H : ∀ (us bs pa pb : List Tree), pa.length = pb.length → x.Kids = pa ++ us → y.Kids = pb ++ bs → tdL us < n + 1 → tsL us ≤ 100000 → tsL bs ≤ 100000 → rangeC (fun i1 (x1 : tree_sized) (s1 : Unit) n1 => if ((y.Kids.map mzN).length : Int) ≤ (i1 : Int) then some 1 else ((y.Kids.map mzN)[i1]?).bind fun v4 => (tree_compare n x1 v4).bind fun v5 => if v5 = 0 then n1 () else some v5) (us.map mzN) pa.length () (fun _ => if ((x.Kids.map mzN).length : Int) < ((y.Kids.map mzN).length : Int) then some (-1) else some 0) = some (lexF (cmpF n) us bs) from
          H x.Kids y.Kids [] [] rfl rfl rfl (by rw [tdT_eq] at hd; exact hd) (by omega) (by omega)
        intro us
        induction us with
        | nil =>
          intro bs pa pb e1 e2 e3 _ _ _
          rw [List.map_nil, rangeC, List.length_map, List.length_map, e2, e3]
          cases bs with
          | nil => rw [if_neg (by simp; omega), lexF]
          | cons b bs => rw [if_pos (by simp; omega), lexF]
        | cons a us iha =>
          intro bs pa pb e1 e2 e3 h1 h2 h3
          obtain ⟨d1, d2⟩ := tdL_cons h1
          rw [tsL] at h2
          rw [List.map_cons, rangeC]
          cases bs with
          | nil => rw [if_pos (by rw [List.length_map, e3]; simp; omega), lexF]
          | cons b bs =>
            rw [tsL] at h3
            have hb : (y.Kids.map mzN)[pa.length]? = some (mzN b) := by rw [List.getElem?_map, e3, e1, List.getElem?_append_right (Nat.le_refl _), Nat.sub_self]; rfl
            rw [if_neg (by rw [List.length_map, e3]; simp; omega), hb]
            simp only [Option.bind_some]
            rw [ih a b d1 (by omega) (by omega), lexF]
            simp only [Option.bind_some]
            by_cases c : cmpF n a b = 0
            · rw [if_pos c, if_pos c]
              have := iha bs (pa ++ [a]) (pb ++ [b]) (by simp [e1]) (by simp [e2]) (by simp [e3]) d2 (by omega) (by omega)
              rw [List.length_append] at this
              exact this
            · rw [if_neg c, if_neg c]
      · rw [if_neg c2, if_neg c2]
    · rw [if_neg c1, if_neg c1, if_neg c1]
def PF {α : Type} (f : α → α → Int) : Prop := ∀ a b c, f a b ≤ 0 → f b c ≤ 0 → f a c ≤ 0 ∧ (f a c = 0 → f a b = 0 ∧ f b c = 0)
theorem ord_PF : PF ord := by
  intro a b c
  unfold ord
  repeat' split
  all_goals omega
theorem lexF_PF {f : Tree → Tree → Int} (hf : PF f) : PF (lexF f)
  | [], [], [] => by rw [lexF]; omega
  | [], [], _ :: _ => by rw [lexF, lexF]; omega
  | [], _ :: _, [] => by rw [lexF, lexF, lexF]; omega
  | [], _ :: _, _ :: _ => by rw [show lexF f [] (_ :: _) = -1 from by rw [lexF], show lexF f [] (_ :: _) = -1 from by rw [lexF]]; omega
  | _ :: _, [], _ => by rw [show lexF f (_ :: _) [] = 1 from by rw [lexF]]; omega
  | _ :: _, _ :: _, [] => by rw [show lexF f (_ :: _) [] = 1 from by rw [lexF]]; omega
  | a :: us, b :: bs, c :: cs => by
    intro h1 h2
    rw [lexF] at h1 h2
    have q := lexF_PF hf us bs cs
    have p := hf a b c
    rw [lexF, lexF, lexF]
    by_cases x1 : f a b = 0
    · rw [if_pos x1] at h1 ⊢
      by_cases x2 : f b c = 0
      · rw [if_pos x2] at h2 ⊢
        have p2 := p (by omega) (by omega)
        by_cases x3 : f a c = 0
        · rw [if_pos x3]; exact q h1 h2
        · rw [if_neg x3]; exact ⟨p2.1, fun h => absurd h x3⟩
      · rw [if_neg x2] at h2 ⊢
        have p2 := p (by omega) h2
        have x3 : f a c ≠ 0 := fun h => x2 (p2.2 h).2
        rw [if_neg x3]; exact ⟨p2.1, fun h => absurd h x3⟩
    · rw [if_neg x1] at h1 ⊢
      have hbc : f b c ≤ 0 := by
        by_cases x2 : f b c = 0
        · omega
        · rw [if_neg x2] at h2; exact h2
      have p2 := p h1 hbc
      have x3 : f a c ≠ 0 := fun h => x1 (p2.2 h).1
      rw [if_neg x3]; exact ⟨p2.1, fun h => absurd h x3⟩
/-- first by one measure, then by another -/
theorem then_PF {α : Type} {u v : α → α → Int} (hu : PF u) (hv : PF v) : PF (fun a b => if u a b = 0 then v a b else u a b) := by
  intro a b c h1 h2
  have p := hu a b c
  have q := hv a b c
  simp only [] at h1 h2 ⊢
  by_cases x1 : u a b = 0
  · rw [if_pos x1] at h1 ⊢
    by_cases x2 : u b c = 0
    · rw [if_pos x2] at h2 ⊢
      have p2 := p (by omega) (by omega)
      by_cases x3 : u a c = 0
      · rw [if_pos x3]; exact q h1 h2
      · rw [if_neg x3]; exact ⟨p2.1, fun h => absurd h x3⟩
    · rw [if_neg x2] at h2 ⊢
      have p2 := p (by omega) h2
      have x3 : u a c ≠ 0 := fun h => x2 (p2.2 h).2
      rw [if_neg x3]; exact ⟨p2.1, fun h => absurd h x3⟩
  · rw [if_neg x1] at h1 ⊢
    have hbc : u b c ≤ 0 := by
      by_cases x2 : u b c = 0
      · omega
      · rw [if_neg x2] at h2; exact h2
    have p2 := p h1 hbc
    have x3 : u a c ≠ 0 := fun h => x1 (p2.2 h).1
    rw [if_neg x3]; exact ⟨p2.1, fun h => absurd h x3⟩
theorem cmpF_PF : ∀ n, PF (cmpF n)
  | 0 => by intro a b c; rw [cmpF, cmpF, cmpF]; omega
  | n + 1 => by
    have h := then_PF (α := Tree) (u := fun x y => ord (tsT x) (tsT y)) (v := fun x y => if ord x.Sym y.Sym = 0 then lexF (cmpF n) x.Kids y.Kids else ord x.Sym y.Sym) (fun a b c => ord_PF _ _ _)
      (then_PF (u := fun x y : Tree => ord x.Sym y.Sym) (v := fun x y : Tree => lexF (cmpF n) x.Kids y.Kids) (fun a b c => ord_PF _ _ _) (fun a b c => lexF_PF (cmpF_PF n) _ _ _))
    intro a b c
    have := h a b c
    rw [cmpF, cmpF, cmpF]
    exact this
theorem Compare_eq {n : Nat} {x y : Tree} (dx : tdT x < n) (dy : tdT y < n) (sx : tsT x ≤ 100000) (sy : tsT y ≤ 100000) : tree_Compare n x y = some (cmpF n x y) := by
  unfold tree_Compare
  rw [measure_eq n x dx sx, measure_eq n y dy sy]
  simp only [Option.bind_some]
  rw [hcompare_eq n x y dx sx sy]
  rfl
theorem few3 {n : Nat} {r : List Int} {x y z : Tree} (hr : r.length ≤ 40) (dx : tdT x < n) (dy : tdT y < n) (dz : tdT z < n) (wx : twT x = true) (wy : twT y = true) (wz : twT z = true) :
    law01_few n ⟨r⟩ [x, y, z] = some (decide ((tsT x : Int) ≤ 2000) && (decide ((tsT y : Int) ≤ 2000) && decide ((tsT z : Int) ≤ 2000))) := by
  unfold law01_few
  rw [rangeL, if_pos (by simp only [List.length_cons, List.length_nil]; omega)]
  simp only [rangeC]
  rw [tfew_eq dx wx (by omega) (by omega), tfew_eq dy wy (by omega) (by omega), tfew_eq dz wz (by omega) (by omega)]
  simp only [Option.bind_some]
  cases decide ((tsT x : Int) ≤ 2000) <;> cases decide ((tsT y : Int) ≤ 2000) <;> cases decide ((tsT z : Int) ≤ 2000) <;> first | rfl | (simp; omega)
theorem awake_eq (m : Nat) : law01_awake (m + 20) = some true := by rfl
theorem order_law (m : Nat) (x y z : Tree) (dx : tdT x < m + 20) (dy : tdT y < m + 20) (dz : tdT z < m + 20) (wx : twT x = true) (wy : twT y = true) (wz : twT z = true) : law01_TreeOrder (m + 20) x y z = some true := by
  unfold law01_TreeOrder
  rw [few3 (by simp only [List.length_cons, List.length_nil]; omega) dx dy dz wx wy wz, awake_eq]
  simp only [Option.bind_some]
  by_cases c : (decide ((tsT x : Int) ≤ 2000) && (decide ((tsT y : Int) ≤ 2000) && decide ((tsT z : Int) ≤ 2000))) = true
  · rw [if_pos c]
    simp only [Bool.and_eq_true, decide_eq_true_eq] at c
    rw [Compare_eq dx dy (by omega) (by omega), Compare_eq dy dz (by omega) (by omega), Compare_eq dx dz (by omega) (by omega)]
    simp only [Option.bind_some]
    by_cases c1 : 0 < cmpF (m + 20) x y
    · rw [if_pos c1]
    · rw [if_neg c1]
      by_cases c2 : 0 < cmpF (m + 20) y z
      · rw [if_pos c2]
      · rw [if_neg c2, if_pos ((cmpF_PF (m + 20) x y z (by omega) (by omega)).1)]
  · rw [if_neg c]
end Go.AM.S01

namespace Go.AM.S01
open Go Go.Proofs Go.AM
theorem twL_all : ∀ {l : List Tree}, (∀ x, x ∈ l → twT x = true) → twL l = true
  | [], _ => by rw [twL]
  | x :: r, h => by rw [twL, h x (by simp), twL_all (fun y hy => h y (List.mem_cons_of_mem _ hy))]; rfl
theorem d3 : (T.at 3).d = .int .i64 := rfl
theorem d24 : (T.at 24).d = .st [(0, 3), (1, 22)] := rfl
theorem d22 : (T.at 22).d = .sl 24 := rfl
theorem sz3 : (T.at 3).size = 1 := rfl
theorem sz22 : (T.at 22).size = 1 := rfl
theorem sz24 : (T.at 24).size = 2 := rfl
theorem wt24 : ∀ (n : Nat) (cs : List PV), wt T n 24 cs → ∃ x : Tree, cs = row_Tree x ∧ twT x = true := by
  intro n
  induction n using Nat.strongRecOn with
  | _ n ih =>
    intro cs h
    obtain ⟨m, rfl, h1, h2⟩ := wt_st d24 h
    rw [sz24] at h1
    match cs, h1 with
    | [c0, c1], _ =>
      have f0 := h2 (0, 3) (by simp)
      have f1 := h2 (1, 22) (by simp)
      simp only [sz3, sz22, List.drop_zero, List.drop_succ_cons, List.take_succ_cons, List.take_zero] at f0 f1
      obtain ⟨i, e0, _⟩ := wt_int d3 f0
      obtain ⟨xs, e1, hl, hx⟩ := wt_slM (row := row_Tree) (P := fun x => twT x = true) d22 f1 (fun m' r hm hr => ih m' (by omega) r hr)
      injection e0 with e0; subst e0
      injection e1 with e1; subst e1
      refine ⟨⟨i, xs⟩, by rw [row_Tree_eq, sz24], ?_⟩
      rw [twT, decide_eq_true hl, twL_all hx]; rfl
theorem law3 (pss : List (List PV)) (h : wtAll T [24, 24, 24] pss) : ∃ σ', call Tryd.prog T H (.fn 3) (argsOf T [24, 24, 24] pss) [] = some (.ret (.p (.lit (.bool true))), σ') := by
  obtain ⟨p1, r1, rfl, ⟨n1, w1⟩, p2, r2, rfl, ⟨n2, w2⟩, p3, r3, rfl, ⟨n3, w3⟩, rfl⟩ := h
  obtain ⟨x, rfl, hx⟩ := wt24 n1 p1 w1
  obtain ⟨y, rfl, hy⟩ := wt24 n2 p2 w2
  obtain ⟨z, rfl, hz⟩ := wt24 n3 p3 w3
  have := spec3 (tdT x + tdT y + tdT z + 20) x y z true (order_law (tdT x + tdT y + tdT z) x y z (by omega) (by omega) (by omega) hx hy hz)
  rw [row_Tree_eq, row_Tree_eq, row_Tree_eq]
  exact ⟨[], this⟩
theorem closed : closedB T [3, 22, 24] = true := by decide +kernel
theorem primOk : PrimOk Tryd.prog GL H := PrimOk.none fun f => hOf_pr (by kernel_rfl)
end Go.AM.S01

