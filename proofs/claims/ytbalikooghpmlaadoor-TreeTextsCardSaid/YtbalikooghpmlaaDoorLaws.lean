/- What the functions of this seat compute on the abstract machine, function by function, and the plain laws. -/
import Derived.Test.YtbalikooghpmlaaDoorTab
import Derived.Test.YtbalikooghpmlaaDoorAmGen
import Derived.KernelRfl
import Derived.Test.YtbalikooghpmlaaDoorAmEntry
import Derived.Test.YtbalikooghpmlaaDoorAmVal
set_option linter.unusedVariables false
set_option linter.unusedSimpArgs false
namespace Go.AM.S01
open Go Go.Proofs Go.AM
set_option maxRecDepth 100000
set_option linter.unusedVariables false
set_option maxHeartbeats 4000000
def dR : Code → Code
 | .seq _ b => b
 | _ => .skip
theorem sR86 : splitR c86 = some (5, dR c86) := by rfl
theorem nr86 : noRF (dR c86) = true := by kernel_rfl
theorem gd86_p0 (σ : List AObj) (i : Nat) (hp1 : i < σ.length) (x : AV) (K : List AObj → Option (Out × List AObj)) : gdR Tryd.prog T H 86 [.ptr i 0] (List.set σ i (.cells [x])) (some (.ifc 115 (.agg []))) K = K (List.set σ i (.cells [.p (iv 4)])) := by
 rw [gdR_eq (c := c86) Tryd.func86 rfl sR86 ⟨rfl, rfl, rfl, by decide, (by show 1 ≤ 5; decide), nr86⟩]
 unfold dR c86 Tryd.f86
 simp only [Option.getD_some]
 simp only [go_sem, pvA, hp1, fun k => Nat.lt_add_right k hp1, Nat.not_le_of_lt hp1, fun k => Nat.not_le_of_lt (Nat.lt_add_right k hp1)]
noncomputable def gX86 (σ : List AObj) (i : Nat) (K : List AObj → Option (Out × List AObj)) : Option AObj → Option (Out × List AObj)
 | some (.cells [_]) => K (List.set σ i (.cells [.p (iv 4)]))
 | _ => gdR Tryd.prog T H 86 [.ptr i 0] σ (some (.ifc 115 (.agg []))) K
theorem gX86_c (σ : List AObj) (i : Nat) (K : List AObj → Option (Out × List AObj)) (x : AV) : gX86 σ i K (some (.cells [x])) = K (List.set σ i (.cells [.p (iv 4)])) := rfl
theorem gd86_p (σ : List AObj) (i : Nat) (K : List AObj → Option (Out × List AObj)) : gdR Tryd.prog T H 86 [.ptr i 0] σ (some (.ifc 115 (.agg []))) K = gX86 σ i K σ[i]? := by
 unfold gX86
 split
 ·rename_i x h
  have hi := (List.getElem?_eq_some_iff.1 h).1
  have := gd86_p0 σ i hi x K
  rwa [show List.set σ i (.cells [x]) = σ from by
   refine List.ext_getElem? fun j => ?_
   by_cases e : i = j
   ·subst e; rw [List.getElem?_set_self hi, h]
   ·rw [List.getElem?_set_ne e]] at this
 ·rfl
theorem gd86_n (σ : List AObj) (i : Nat) (K : List AObj → Option (Out × List AObj)) : gdR Tryd.prog T H 86 [.ptr i 0] σ none K = K σ := by
 rw [gdR_eq (c := c86) Tryd.func86 rfl sR86 ⟨rfl, rfl, rfl, by decide, (by show 1 ≤ 5; decide), nr86⟩]
 unfold dR c86 Tryd.f86
 simp only [Option.getD_some]
 simp only [go_sem, pvA]
attribute [go_sem] gX86_c gd86_p gd86_n
end Go.AM.S01

namespace Go.AM.S01
open Go Go.Proofs Go.AM
set_option maxRecDepth 100000
set_option linter.unusedVariables false
set_option maxHeartbeats 4000000
structure Tree where
 Sym : Int
 Kids : List Tree
mutual
def row_Tree : Tree → List PV
 | .mk f0 f1 => [iv f0, .sl none 2 (rows_Tree f1)]
def rows_Tree : List Tree → List (List PV)
 | [] => []
 | x :: r => row_Tree x :: rows_Tree r
end
theorem rows_Tree_map : ∀ l : List Tree, rows_Tree l = l.map row_Tree
 | [] => rfl
 | x :: r => by rw [rows_Tree, rows_Tree_map r]; rfl
theorem row_Tree_eq (x : Tree) : row_Tree x = [iv x.Sym, .sl none 2 (List.map row_Tree x.Kids)] := by
 cases x; rw [row_Tree]; simp only [rows_Tree_map]
attribute [go_sem] row_Tree_eq
structure Alphabet where
 Ranks : List Int
def row_Alphabet (x : Alphabet) : List PV := [.sl none 1 (List.map rowI x.Ranks)]
theorem row_Alphabet_eq (x : Alphabet) : row_Alphabet x = [.sl none 1 (List.map rowI x.Ranks)] := rfl
attribute [go_sem] row_Alphabet_eq
structure tree_sized where
 sym : Int
 size : Int
 kids : List tree_sized
mutual
def row_tree_sized : tree_sized → List PV
 | .mk f0 f1 f2 => [iv f0, iv f1, .sl none 3 (rows_tree_sized f2)]
def rows_tree_sized : List tree_sized → List (List PV)
 | [] => []
 | x :: r => row_tree_sized x :: rows_tree_sized r
end
theorem rows_tree_sized_map : ∀ l : List tree_sized, rows_tree_sized l = l.map row_tree_sized
 | [] => rfl
 | x :: r => by rw [rows_tree_sized, rows_tree_sized_map r]; rfl
theorem row_tree_sized_eq (x : tree_sized) : row_tree_sized x = [iv x.sym, iv x.size, .sl none 3 (List.map row_tree_sized x.kids)] := by
 cases x; rw [row_tree_sized]; simp only [rows_tree_sized_map]
attribute [go_sem] row_tree_sized_eq
structure tree_Reader where
 text : Str
 at_ : Int
def row_tree_Reader (x : tree_Reader) : List PV := [.lit (.string (bs x.text)), iv x.at_]
theorem row_tree_Reader_eq (x : tree_Reader) : row_tree_Reader x = [.lit (.string (bs x.text)), iv x.at_] := rfl
attribute [go_sem] row_tree_Reader_eq
structure ref01_reader where
 a : Alphabet
 names : List Str
 s : Str
 bad : Bool
def row_ref01_reader (x : ref01_reader) : List PV := [.sl none 1 (List.map rowI x.a.Ranks), .sl none 1 (List.map rowS x.names), .lit (.string (bs x.s)), bv x.bad]
theorem row_ref01_reader_eq (x : ref01_reader) : row_ref01_reader x = [.sl none 1 (List.map rowI x.a.Ranks), .sl none 1 (List.map rowS x.names), .lit (.string (bs x.s)), bv x.bad] := rfl
attribute [go_sem] row_ref01_reader_eq
theorem T_gl0 : globOf T.gl 0 = some [.sl none 1 [[iv 0], [iv 2]]] := rfl
attribute [go_sem] T_gl0
def ref01_count : Nat → Tree → Int → Option Int
 | 0, _, _ => none
 | n + 1, a0, a1 =>
  rangeL a0.Kids 1 (fun k1 i1 x1 (s1 : Int) n1 =>
   if s1 ≤ a1 then
    (ref01_count n x1 (w64 (a1 - s1))).bind fun v1 =>
    n1 (w64 (s1 + v1))
   else
    n1 s1) fun s1 =>
  some s1
theorem spec71 : ∀ (n : Nat), (∀ (a0 : Tree) (a1 : Int) (r : Int), ref01_count n a0 a1 = some r →
 call Tryd.prog T H (.fn 71) [.p (.agg [iv a0.Sym, .sl none 2 (List.map row_Tree a0.Kids)]), .p (iv a1)] [] = some (.ret (.p (iv r)), [])) := by
 intro n
 induction n with
 | zero => intro a0 a1 r h; cases h
 | succ n ih =>
  intro a0 a1 r h
  refine Sat.fn fun Q hQ => ?_
  rw [ref01_count] at h
  rw [call71]
  conv => arg 1; arg 7; unfold S01.c71 Tryd.f71; simp only [Option.getD_some]
  simp only [go_sem]
  refine run_rangeL (c := L71_0) (live := [1, 5, 9, 10, 11]) (by simp only [go_sem]) (M := fun i1 (s1 : Int) => [(1, .p (iv a1)), (5, .p (iv s1)), (9, .p (.sl none 2 (List.map row_Tree a0.Kids))), (10, .p (iv (a0.Kids.length : Int))), (11, .p (iv (i1 : Int)))]) (Z := fun i1 (s1 : Int) => [.cells [.p (iv a0.Sym), .p (.sl none 2 (List.map row_Tree a0.Kids))]]) (N := fun (s1 : Int) => ⟨[(5, .p (iv s1))], [.cells [.p (iv a0.Sym), .p (.sl none 2 (List.map row_Tree a0.Kids))]], [], none, false⟩) h rfl rfl (fun _ _ => rfl) ?_ ?_ ?_
  ·intro s1 h
   try dsimp only at h ⊢
   simp only [go_sem]
   injection h with h; subst h
   exact Sat.ok hQ
  ·intro K1 s1 hb1 he1
   try dsimp only
   conv => arg 1; arg 7; unfold L71_0 loopAt S01.c71 Tryd.f71; simp only [loopIn, Option.getD_some, if_true]
   simp only [go_sem, he1]
   exact hb1
  ·intro K1 k1 i1 x1 s1 n1 hR1 hE1 hb1 hx1 hi1 hw1 ih1 h
   try dsimp only at h ⊢
   conv => arg 1; arg 7; unfold L71_0 loopAt S01.c71 Tryd.f71; simp only [loopIn, Option.getD_some, if_true]
   by_cases c1 : s1 ≤ a1
   ·have h := iteT h c1
    obtain ⟨v1, e_v1, h⟩ := ob h
    have e_v1c : call Tryd.prog T H (.fn 71) [.p (.agg [iv x1.Sym, .sl none 2 (List.map row_Tree x1.Kids)]), .p (iv (w64 (a1 - s1)))] [] = some (.ret (.p (iv v1)), []) := ih x1 (w64 (a1 - s1)) v1 e_v1
    simp only [go_sem, hx1, hi1, hw1, c1, e_v1c, hR1, hE1]
    exact ih1 (w64 (s1 + v1)) h
   ·have h := iteF h c1
    simp only [go_sem, hx1, hi1, hw1, c1, hR1, hE1]
    exact ih1 s1 h
def ref01_Few (n : Nat) (a0 : Tree) (a1 : Int) : Option Bool :=
 (ref01_count n a0 a1).bind fun v1 =>
 some (decide (v1 ≤ a1))
theorem spec38 (n : Nat) (a0 : Tree) (a1 : Int) (r : Bool) (h : ref01_Few n a0 a1 = some r) :
 call Tryd.prog T H (.fn 38) [.p (.agg [iv a0.Sym, .sl none 2 (List.map row_Tree a0.Kids)]), .p (iv a1)] [] = some (.ret (.p (bv r)), []) := by
 refine Sat.fn fun Q hQ => ?_
 unfold ref01_Few at h
 rw [call38]
 conv => arg 1; arg 7; unfold S01.c38 Tryd.f38; simp only [Option.getD_some]
 obtain ⟨v1, e_v1, h⟩ := ob h
 have e_v1c := spec71 n a0 a1 v1 e_v1
 simp only [go_sem, e_v1c]
 injection h with h; subst h
 exact Sat.ok hQ
def law01_few (n : Nat) (a0 : Alphabet) (a1 : List Tree) : Option Bool :=
 rangeL a1 () (fun k1 i1 x1 (s1 : Unit) n1 =>
  (ref01_Few n x1 2000).bind fun v1 =>
  if v1 = true then
   n1 ()
  else
   some false) fun s1 =>
 some (decide ((a0.Ranks.length : Int) ≤ 40))
theorem spec9 (n : Nat) (a0 : Alphabet) (a1 : List Tree) (r : Bool) (h : law01_few n a0 a1 = some r) :
 call Tryd.prog T H (.fn 9) [.p (.agg [.sl none 1 (List.map rowI a0.Ranks)]), .p (.sl none 2 (List.map row_Tree a1))] [] = some (.ret (.p (bv r)), []) := by
 refine Sat.fn fun Q hQ => ?_
 unfold law01_few at h
 rw [call9]
 conv => arg 1; arg 7; unfold S01.c9 Tryd.f9; simp only [Option.getD_some]
 simp only [go_sem]
 refine run_rangeL (c := L9_0) (live := [2, 7, 8, 9]) (by simp only [go_sem]) (M := fun i1 (s1 : Unit) => [(2, .ptr 0 0), (7, .p (.sl none 2 (List.map row_Tree a1))), (8, .p (iv (a1.length : Int))), (9, .p (iv (i1 : Int)))]) (Z := fun i1 (s1 : Unit) => [.cells [.p (.sl none 1 (List.map rowI a0.Ranks))]]) (N := fun (s1 : Unit) => ⟨[(2, .ptr 0 0)], [.cells [.p (.sl none 1 (List.map rowI a0.Ranks))]], [], none, false⟩) h rfl rfl (fun _ _ => rfl) ?_ ?_ ?_
 ·intro s1 h
  try dsimp only at h ⊢
  simp only [go_sem]
  injection h with h; subst h
  exact Sat.ok hQ
 ·intro K1 s1 hb1 he1
  try dsimp only
  conv => arg 1; arg 7; unfold L9_0 loopAt S01.c9 Tryd.f9; simp only [loopIn, Option.getD_some, if_true]
  simp only [go_sem, he1]
  exact hb1
 ·intro K1 k1 i1 x1 s1 n1 hR1 hE1 hb1 hx1 hi1 hw1 ih1 h
  try dsimp only at h ⊢
  conv => arg 1; arg 7; unfold L9_0 loopAt S01.c9 Tryd.f9; simp only [loopIn, Option.getD_some, if_true]
  obtain ⟨v1, e_v1, h⟩ := ob h
  have e_v1c := spec38 n x1 2000 v1 e_v1
  by_cases c1 : v1 = true
  ·have h := iteT h c1
   simp only [go_sem, hx1, hi1, hw1, e_v1c, c1, hR1, hE1]
   exact ih1 () h
  ·have h := iteF h c1
   have c1 := eq_false_of_ne_true c1
   simp only [go_sem, hx1, hi1, hw1, e_v1c, c1, hR1, hE1]
   injection h with h; subst h
   exact Sat.ok hQ
def cmp_Or_int (a0 : List Int) : Option Int :=
 rangeL a0 () (fun k1 i1 x1 (s1 : Unit) n1 =>
  if x1 = 0 then
   n1 ()
  else
   some x1) fun s1 =>
 some 0
theorem spec72 (a0 : List Int) (r : Int) (h : cmp_Or_int a0 = some r) :
 call Tryd.prog T H (.fn 72) [.p (.sl none 1 (List.map rowI a0))] [] = some (.ret (.p (iv r)), []) := by
 refine Sat.fn fun Q hQ => ?_
 unfold cmp_Or_int at h
 rw [call72]
 conv => arg 1; arg 7; unfold S01.c72 Tryd.f72; simp only [Option.getD_some]
 simp only [go_sem]
 refine run_rangeL (c := L72_0) (live := [3, 6, 7, 8]) (by simp only [go_sem]) (M := fun i1 (s1 : Unit) => [(3, .p (iv 0)), (6, .p (.sl none 1 (List.map rowI a0))), (7, .p (iv (a0.length : Int))), (8, .p (iv (i1 : Int)))]) (Z := fun i1 (s1 : Unit) => []) (N := fun (s1 : Unit) => ⟨[(3, .p (iv 0))], [], [], none, false⟩) h rfl rfl (fun _ _ => rfl) ?_ ?_ ?_
 ·intro s1 h
  try dsimp only at h ⊢
  simp only [go_sem]
  injection h with h; subst h
  exact Sat.ok hQ
 ·intro K1 s1 hb1 he1
  try dsimp only
  conv => arg 1; arg 7; unfold L72_0 loopAt S01.c72 Tryd.f72; simp only [loopIn, Option.getD_some, if_true]
  simp only [go_sem, he1]
  exact hb1
 ·intro K1 k1 i1 x1 s1 n1 hR1 hE1 hb1 hx1 hi1 hw1 ih1 h
  try dsimp only at h ⊢
  conv => arg 1; arg 7; unfold L72_0 loopAt S01.c72 Tryd.f72; simp only [loopIn, Option.getD_some, if_true]
  by_cases c1 : x1 = 0
  ·have h := iteT h c1
   have c1b : (x1 != 0) = false := bneF c1
   simp only [go_sem, hx1, hi1, hw1, c1b, hR1, hE1]
   exact ih1 () h
  ·have h := iteF h c1
   have c1b : (x1 != 0) = true := bneT c1
   simp only [go_sem, hx1, hi1, hw1, c1b, hR1, hE1]
   injection h with h; subst h
   exact Sat.ok hQ
def cmp_isNaN_int (a0 : Int) : Option Bool :=
 some (a0 != a0)
theorem spec91 (a0 : Int) (r : Bool) (h : cmp_isNaN_int a0 = some r) :
 call Tryd.prog T H (.fn 91) [.p (iv a0)] [] = some (.ret (.p (bv r)), []) := by
 refine Sat.fn fun Q hQ => ?_
 unfold cmp_isNaN_int at h
 rw [call91]
 conv => arg 1; arg 7; unfold S01.c91 Tryd.f91; simp only [Option.getD_some]
 simp only [go_sem]
 injection h with h; subst h
 exact Sat.ok hQ
def cmp_Compare_int (a0 : Int) (a1 : Int) : Option Int :=
 (cmp_isNaN_int a0).bind fun v1 =>
 (cmp_isNaN_int a1).bind fun v2 =>
 if v1 = true then
  if v2 = true then
   some 0
  else
   some (-1)
 else
  if v2 = true then
   some 1
  else
   if a0 < a1 then
    some (-1)
   else
    if a1 < a0 then
     some 1
    else
     some 0
theorem spec73 (a0 : Int) (a1 : Int) (r : Int) (h : cmp_Compare_int a0 a1 = some r) :
 call Tryd.prog T H (.fn 73) [.p (iv a0), .p (iv a1)] [] = some (.ret (.p (iv r)), []) := by
 refine Sat.fn fun Q hQ => ?_
 unfold cmp_Compare_int at h
 rw [call73]
 conv => arg 1; arg 7; unfold S01.c73 Tryd.f73; simp only [Option.getD_some]
 obtain ⟨v1, e_v1, h⟩ := ob h
 have e_v1c := spec91 a0 v1 e_v1
 obtain ⟨v2, e_v2, h⟩ := ob h
 have e_v2c := spec91 a1 v2 e_v2
 by_cases c1 : v1 = true
 ·have h := iteT h c1
  by_cases c2 : v2 = true
  ·have h := iteT h c2
   simp only [go_sem, e_v1c, e_v2c, c1, c2]
   injection h with h; subst h
   exact Sat.ok hQ
  ·have h := iteF h c2
   have c2 := eq_false_of_ne_true c2
   simp only [go_sem, e_v1c, e_v2c, c1, c2]
   injection h with h; subst h
   exact Sat.ok hQ
 ·have h := iteF h c1
  have c1 := eq_false_of_ne_true c1
  by_cases c3 : v2 = true
  ·have h := iteT h c3
   simp only [go_sem, e_v1c, e_v2c, c1, c3]
   injection h with h; subst h
   exact Sat.ok hQ
  ·have h := iteF h c3
   have c3 := eq_false_of_ne_true c3
   by_cases c4 : a0 < a1
   ·have h := iteT h c4
    simp only [go_sem, e_v1c, e_v2c, c1, c3, c4]
    injection h with h; subst h
    exact Sat.ok hQ
   ·have h := iteF h c4
    by_cases c5 : a1 < a0
    ·have h := iteT h c5
     simp only [go_sem, e_v1c, e_v2c, c1, c3, c4, c5]
     injection h with h; subst h
     exact Sat.ok hQ
    ·have h := iteF h c5
     simp only [go_sem, e_v1c, e_v2c, c1, c3, c4, c5]
     injection h with h; subst h
     exact Sat.ok hQ
def tree_compare : Nat → tree_sized → tree_sized → Option Int
 | 0, _, _ => none
 | n + 1, a0, a1 =>
  (cmp_Compare_int a0.size a1.size).bind fun v1 =>
  (cmp_Compare_int a0.sym a1.sym).bind fun v2 =>
  (cmp_Or_int [v1, v2]).bind fun v3 =>
  if v3 = 0 then
   jn (fun (u1 : Int) =>
    some u1) fun j1 =>
   rangeL a0.kids () (fun k1 i1 x1 (s1 : Unit) n1 =>
    if (a1.kids.length : Int) ≤ (i1 : Int) then
     j1 1
    else
     (a1.kids[i1]?).bind fun v4 =>
     (tree_compare n x1 v4).bind fun v5 =>
     if v5 = 0 then
      n1 ()
     else
      j1 v5) fun s1 =>
   if (a0.kids.length : Int) < (a1.kids.length : Int) then
    j1 (-1)
   else
    j1 0
  else
   some v3
theorem spec41 : ∀ (n : Nat), (∀ (a0 : tree_sized) (a1 : tree_sized) (r : Int), tree_compare n a0 a1 = some r →
 call Tryd.prog T H (.fn 41) [.p (.agg [iv a0.sym, iv a0.size, .sl none 3 (List.map row_tree_sized a0.kids)]), .p (.agg [iv a1.sym, iv a1.size, .sl none 3 (List.map row_tree_sized a1.kids)])] [] = some (.ret (.p (iv r)), [])) := by
 intro n
 induction n with
 | zero => intro a0 a1 r h; cases h
 | succ n ih =>
  intro a0 a1 r h
  refine Sat.fn fun Q hQ => ?_
  rw [tree_compare] at h
  rw [call41]
  conv => arg 1; arg 7; unfold S01.c41 Tryd.f41; simp only [Option.getD_some]
  obtain ⟨v1, e_v1, h⟩ := ob h
  have e_v1c := spec73 a0.size a1.size v1 e_v1
  obtain ⟨v2, e_v2, h⟩ := ob h
  have e_v2c := spec73 a0.sym a1.sym v2 e_v2
  obtain ⟨v3, e_v3, h⟩ := ob h
  have e_v3c : call Tryd.prog T H (.fn 72) [.p (.sl none 1 [[iv v1], [iv v2]])] [] = some (.ret (.p (iv v3)), []) := by have q := spec72 [v1, v2] v3 e_v3; simp only [List.map_cons, List.map_nil, rowI] at q ⊢; exact q
  by_cases c1 : v3 = 0
  ·have h := iteT h c1
   have c1b : (v3 != 0) = false := bneF c1
   simp only [go_sem, e_v1c, e_v2c, e_v3c, c1b]
   refine Sat.callj (V := fun (u1 : Int) => .p (iv u1)) (Z := fun (u1 : Int) => [.cells [.p (iv a0.sym), .p (iv a0.size), .p (.sl none 3 (List.map row_tree_sized a0.kids))], .cells [.p (iv a1.sym), .p (iv a1.size), .p (.sl none 3 (List.map row_tree_sized a1.kids))]]) h ?_ ?_
   ·intro u1 h
    try dsimp only at h ⊢
    simp only [go_sem]
    injection h with h; subst h
    exact Sat.ok hQ
   ·intro j1 h
    rw [call74]
    conv => arg 1; arg 7; unfold S01.c74 Tryd.f74; simp only [Option.getD_some]
    simp only [go_sem]
    refine run_rangeL (c := L74_0) (live := [0, 1, 2, 11, 12, 13]) (by simp only [go_sem]) (M := fun i1 (s1 : Unit) => [(0, .p (.sl none 3 (List.map row_tree_sized a0.kids))), (1, .p (.sl none 3 (List.map row_tree_sized a1.kids))), (2, .p (.fn 41)), (11, .p (.sl none 3 (List.map row_tree_sized a0.kids))), (12, .p (iv (a0.kids.length : Int))), (13, .p (iv (i1 : Int)))]) (Z := fun i1 (s1 : Unit) => [.cells [.p (iv a0.sym), .p (iv a0.size), .p (.sl none 3 (List.map row_tree_sized a0.kids))], .cells [.p (iv a1.sym), .p (iv a1.size), .p (.sl none 3 (List.map row_tree_sized a1.kids))]]) (N := fun (s1 : Unit) => ⟨[(0, .p (.sl none 3 (List.map row_tree_sized a0.kids))), (1, .p (.sl none 3 (List.map row_tree_sized a1.kids)))], [.cells [.p (iv a0.sym), .p (iv a0.size), .p (.sl none 3 (List.map row_tree_sized a0.kids))], .cells [.p (iv a1.sym), .p (iv a1.size), .p (.sl none 3 (List.map row_tree_sized a1.kids))]], [], none, false⟩) h rfl rfl (fun _ _ => rfl) ?_ ?_ ?_
    ·intro s1 h
     try dsimp only at h ⊢
     by_cases c2 : (a0.kids.length : Int) < (a1.kids.length : Int)
     ·have h := iteT h c2
      simp only [go_sem, c2]
      exact Sat.ok ⟨(-1), rfl, h⟩
     ·have h := iteF h c2
      simp only [go_sem, c2]
      exact Sat.ok ⟨0, rfl, h⟩
    ·intro K1 s1 hb1 he1
     try dsimp only
     conv => arg 1; arg 7; unfold L74_0 loopAt S01.c74 Tryd.f74; simp only [loopIn, Option.getD_some, if_true]
     simp only [go_sem, he1]
     exact hb1
    ·intro K1 k1 i1 x1 s1 n1 hR1 hE1 hb1 hx1 hi1 hw1 ih1 h
     try dsimp only at h ⊢
     conv => arg 1; arg 7; unfold L74_0 loopAt S01.c74 Tryd.f74; simp only [loopIn, Option.getD_some, if_true]
     by_cases c3 : (a1.kids.length : Int) ≤ (i1 : Int)
     ·have h := iteT h c3
      simp only [go_sem, hx1, hi1, hw1, c3, hR1, hE1]
      exact Sat.ok ⟨1, rfl, h⟩
     ·have h := iteF h c3
      obtain ⟨v4, e_v4, h⟩ := ob h
      obtain ⟨v5, e_v5, h⟩ := ob h
      have e_v5c := ih x1 v4 v5 e_v5
      by_cases c4 : v5 = 0
      ·have h := iteT h c4
       have c4b : (v5 != 0) = false := bneF c4
       simp only [go_sem, hx1, hi1, hw1, c3, e_v4, e_v5c, c4b, hR1, hE1]
       exact ih1 () h
      ·have h := iteF h c4
       have c4b : (v5 != 0) = true := bneT c4
       simp only [go_sem, hx1, hi1, hw1, c3, e_v4, e_v5c, c4b, hR1, hE1]
       exact Sat.ok ⟨v5, rfl, h⟩
  ·have h := iteF h c1
   have c1b : (v3 != 0) = true := bneT c1
   simp only [go_sem, e_v1c, e_v2c, e_v3c, c1b]
   injection h with h; subst h
   exact Sat.ok hQ
def tree_measure : Nat → Tree → Option tree_sized
 | 0, _ => none
 | n + 1, a0 =>
  rangeL a0.Kids (1, ([] : List tree_sized)) (fun k1 i1 x1 (s1 : Int × (List tree_sized)) n1 =>
   (tree_measure n x1).bind fun v1 =>
   (app 40 s1.2 [v1]).bind fun v2 =>
   n1 (w64 (s1.1 + v1.size), v2)) fun s1 =>
  some (tree_sized.mk a0.Sym s1.1 s1.2)
theorem spec42 : ∀ (n : Nat), (∀ (a0 : Tree) (r : tree_sized), tree_measure n a0 = some r →
 call Tryd.prog T H (.fn 42) [.p (.agg [iv a0.Sym, .sl none 2 (List.map row_Tree a0.Kids)])] [] = some (.ret (.p (.agg [iv r.sym, iv r.size, .sl none 3 (List.map row_tree_sized r.kids)])), [])) := by
 intro n
 induction n with
 | zero => intro a0 r h; cases h
 | succ n ih =>
  intro a0 r h
  refine Sat.fn fun Q hQ => ?_
  rw [tree_measure] at h
  rw [call42]
  conv => arg 1; arg 7; unfold S01.c42 Tryd.f42; simp only [Option.getD_some]
  simp only [go_sem]
  refine run_rangeL (c := L42_0) (live := [2, 3, 11, 12, 13]) (by simp only [go_sem]) (M := fun i1 (s1 : Int × (List tree_sized)) => [(2, .ptr 1 0), (3, .ptr 2 0), (11, .p (.sl none 2 (List.map row_Tree a0.Kids))), (12, .p (iv (a0.Kids.length : Int))), (13, .p (iv (i1 : Int)))]) (Z := fun i1 (s1 : Int × (List tree_sized)) => [.cells [.p (iv a0.Sym), .p (.sl none 2 (List.map row_Tree a0.Kids))], .cells [.p (iv 0), .p (iv 0), .own 3 []], .cells [.p (iv a0.Sym), .p (iv s1.1), .own 3 (List.map row_tree_sized s1.2)]]) (N := fun (s1 : Int × (List tree_sized)) => ⟨[(2, .ptr 1 0), (3, .ptr 2 0)], [.cells [.p (iv a0.Sym), .p (.sl none 2 (List.map row_Tree a0.Kids))], .cells [.p (iv 0), .p (iv 0), .own 3 []], .cells [.p (iv a0.Sym), .p (iv s1.1), .own 3 (List.map row_tree_sized s1.2)]], [], none, false⟩) h rfl rfl (fun _ _ => rfl) ?_ ?_ ?_
  ·intro s1 h
   try dsimp only at h ⊢
   simp only [go_sem]
   injection h with h; subst h
   exact Sat.ok hQ
  ·intro K1 s1 hb1 he1
   try dsimp only
   conv => arg 1; arg 7; unfold L42_0 loopAt S01.c42 Tryd.f42; simp only [loopIn, Option.getD_some, if_true]
   simp only [go_sem, he1]
   exact hb1
  ·intro K1 k1 i1 x1 s1 n1 hR1 hE1 hb1 hx1 hi1 hw1 ih1 h
   try dsimp only at h ⊢
   conv => arg 1; arg 7; unfold L42_0 loopAt S01.c42 Tryd.f42; simp only [loopIn, Option.getD_some, if_true]
   obtain ⟨v1, e_v1, h⟩ := ob h
   have e_v1c := ih x1 v1 e_v1
   obtain ⟨v2, e_v2, h⟩ := ob h
   have e_v2a : boundOk (s1.2.length + 1) 40 = true := bnd_of (by have := (app_some e_v2).1; simpa using this) (by decide)
   have e_v2b : (List.map row_tree_sized s1.2) ++ [[iv v1.sym, iv v1.size, .sl none 3 (List.map row_tree_sized v1.kids)]] = List.map row_tree_sized v2 := by rw [(app_some e_v2).2]; simp [row_tree_sized_eq]
   simp only [go_sem, hx1, hi1, hw1, e_v1c, e_v2a, e_v2b, hR1, hE1]
   exact ih1 (w64 (s1.1 + v1.size), v2) h
def tree_Compare (n : Nat) (a0 : Tree) (a1 : Tree) : Option Int :=
 (tree_measure n a0).bind fun v1 =>
 (tree_measure n a1).bind fun v2 =>
 (tree_compare n v1 v2).bind fun v3 =>
 some v3
theorem spec11 (n : Nat) (a0 : Tree) (a1 : Tree) (r : Int) (h : tree_Compare n a0 a1 = some r) :
 call Tryd.prog T H (.fn 11) [.p (.agg [iv a0.Sym, .sl none 2 (List.map row_Tree a0.Kids)]), .p (.agg [iv a1.Sym, .sl none 2 (List.map row_Tree a1.Kids)])] [] = some (.ret (.p (iv r)), []) := by
 refine Sat.fn fun Q hQ => ?_
 unfold tree_Compare at h
 rw [call11]
 conv => arg 1; arg 7; unfold S01.c11 Tryd.f11; simp only [Option.getD_some]
 obtain ⟨v1, e_v1, h⟩ := ob h
 have e_v1c := spec42 n a0 v1 e_v1
 obtain ⟨v2, e_v2, h⟩ := ob h
 have e_v2c := spec42 n a1 v2 e_v2
 obtain ⟨v3, e_v3, h⟩ := ob h
 have e_v3c := spec41 n v1 v2 v3 e_v3
 simp only [go_sem, e_v1c, e_v2c, e_v3c]
 injection h with h; subst h
 exact Sat.ok hQ
def tree_ValidAlphabet_1 (a0 : Int) : Option Bool :=
 if a0 < 0 then
  some true
 else
  some (decide (3 < a0))
theorem spec48 (a0 : Int) (r : Bool) (h : tree_ValidAlphabet_1 a0 = some r) :
 call Tryd.prog T H (.fn 48) [.p (iv a0)] [] = some (.ret (.p (bv r)), []) := by
 refine Sat.fn fun Q hQ => ?_
 unfold tree_ValidAlphabet_1 at h
 rw [call48]
 conv => arg 1; arg 7; unfold S01.c48 Tryd.f48; simp only [Option.getD_some]
 by_cases c1 : a0 < 0
 ·have h := iteT h c1
  simp only [go_sem, c1]
  injection h with h; subst h
  exact Sat.ok hQ
 ·have h := iteF h c1
  simp only [go_sem, c1]
  injection h with h; subst h
  exact Sat.ok hQ
def tree_ValidAlphabet (a0 : Alphabet) : Option Bool :=
 if (a0.Ranks.length : Int) ≤ 12 then
  jn (fun (u1 : Int) =>
   some (!(decide (0 ≤ u1)))) fun j1 =>
  rangeL a0.Ranks () (fun k1 i1 x1 (s1 : Unit) n1 =>
   (tree_ValidAlphabet_1 x1).bind fun v1 =>
   if v1 = true then
    j1 (i1 : Int)
   else
    n1 ()) fun s1 =>
  j1 (-1)
 else
  some false
theorem spec15 (a0 : Alphabet) (r : Bool) (h : tree_ValidAlphabet a0 = some r) :
 call Tryd.prog T H (.fn 15) [.p (.agg [.sl none 1 (List.map rowI a0.Ranks)])] [] = some (.ret (.p (bv r)), []) := by
 refine Sat.fn fun Q hQ => ?_
 unfold tree_ValidAlphabet at h
 rw [call15]
 conv => arg 1; arg 7; unfold S01.c15 Tryd.f15; simp only [Option.getD_some]
 by_cases c1 : (a0.Ranks.length : Int) ≤ 12
 ·have h := iteT h c1
  simp only [go_sem, c1]
  refine Sat.callc ?_
  rw [call47]
  conv => arg 1; arg 7; unfold S01.c47 Tryd.f47; simp only [Option.getD_some]
  simp only [go_sem]
  refine Sat.callj (V := fun (u1 : Int) => .p (iv u1)) (Z := fun (u1 : Int) => [.cells [.p (.sl none 1 (List.map rowI a0.Ranks))]]) h ?_ ?_
  ·intro u1 h
   try dsimp only at h ⊢
   simp only [go_sem]
   refine Sat.ok ?_
   dsimp only
   simp only [go_sem]
   injection h with h; subst h
   exact Sat.ok hQ
  ·intro j1 h
   rw [call79]
   conv => arg 1; arg 7; unfold S01.c79 Tryd.f79; simp only [Option.getD_some]
   simp only [go_sem]
   refine run_rangeL (c := L79_0) (live := [0, 1, 7, 8]) (by simp only [go_sem]) (M := fun i1 (s1 : Unit) => [(0, .p (.sl none 1 (List.map rowI a0.Ranks))), (1, .p (.fn 48)), (7, .p (iv (a0.Ranks.length : Int))), (8, .p (iv (i1 : Int)))]) (Z := fun i1 (s1 : Unit) => [.cells [.p (.sl none 1 (List.map rowI a0.Ranks))]]) (N := fun (s1 : Unit) => ⟨[], [.cells [.p (.sl none 1 (List.map rowI a0.Ranks))]], [], none, false⟩) h rfl rfl (fun _ _ => rfl) ?_ ?_ ?_
   ·intro s1 h
    try dsimp only at h ⊢
    simp only [go_sem]
    exact Sat.ok ⟨(-1), rfl, h⟩
   ·intro K1 s1 hb1 he1
    try dsimp only
    conv => arg 1; arg 7; unfold L79_0 loopAt S01.c79 Tryd.f79; simp only [loopIn, Option.getD_some, if_true]
    simp only [go_sem, he1]
    exact hb1
   ·intro K1 k1 i1 x1 s1 n1 hR1 hE1 hb1 hx1 hi1 hw1 ih1 h
    try dsimp only at h ⊢
    conv => arg 1; arg 7; unfold L79_0 loopAt S01.c79 Tryd.f79; simp only [loopIn, Option.getD_some, if_true]
    obtain ⟨v1, e_v1, h⟩ := ob h
    have e_v1c := spec48 x1 v1 e_v1
    by_cases c2 : v1 = true
    ·have h := iteT h c2
     simp only [go_sem, hx1, hi1, hw1, e_v1c, c2, hR1, hE1]
     exact Sat.ok ⟨(i1 : Int), rfl, h⟩
    ·have h := iteF h c2
     have c2 := eq_false_of_ne_true c2
     simp only [go_sem, hx1, hi1, hw1, e_v1c, c2, hR1, hE1]
     exact ih1 () h
 ·have h := iteF h c1
  simp only [go_sem, c1]
  injection h with h; subst h
  exact Sat.ok hQ
def tree_listed_mxx : Nat → (List Int) → Nat → Int → Int → Option Int
 | 0, _, _, _, _ => none
 | n + 1, a0, l0, a1, a2 =>
  if a1 = 0 then
   if a2 = 0 then
    some 1
   else
    some 0
  else
   whileL n (0, 1) (fun k1 (s1 : Int × Int) n1 =>
    if s1.2 ≤ a2 then
     (idxM l0 a0 s1.2).bind fun v1 =>
     if 0 < v1 then
      (tree_listed_mxx n a0 l0 (w64 (a1 - 1)) (w64 (a2 - s1.2))).bind fun v2 =>
      n1 (minI (w64 (s1.1 + (w64 (v1 * v2)))) 4097, w64 (s1.2 + 1))
     else
      n1 (s1.1, w64 (s1.2 + 1))
    else
     k1 (s1.1, s1.2)) fun s1 =>
   some s1.1
theorem spec75_mxx : ∀ (n : Nat), (∀ (σ : List AObj) (p0 : Nat) (g0 : Nat) (hp0 : p0 < σ.length) (a0 : List Int) (l0 : Nat) (a1 : Int) (a2 : Int) (r : Int), tree_listed_mxx n a0 l0 a1 a2 = some r →
 call Tryd.prog T H (.fn 75) [.ms p0 g0 1 0 l0, .p (iv a1), .p (iv a2)] (List.set σ p0 (.arr g0 1 (List.map (rowA rowI) a0))) = some (.ret (.p (iv r)), (List.set σ p0 (.arr g0 1 (List.map (rowA rowI) a0))))) := by
 intro n
 induction n with
 | zero => intro σ p0 g0 hp0 a0 l0 a1 a2 r h; cases h
 | succ n ih =>
  intro σ p0 g0 hp0 a0 l0 a1 a2 r h
  refine Sat.fn fun Q hQ => ?_
  rw [tree_listed_mxx] at h
  rw [call75]
  conv => arg 1; arg 7; unfold S01.c75 Tryd.f75; simp only [Option.getD_some]
  by_cases c1 : a1 = 0
  ·have h := iteT h c1
   have c1b : (a1 == 0) = true := beqT c1
   by_cases c2 : a2 = 0
   ·have h := iteT h c2
    have c2b : (a2 == 0) = true := beqT c2
    simp only [go_sem, c1b, c2b, hp0, fun k => Nat.lt_add_right k hp0, Nat.not_le_of_lt hp0, fun k => Nat.not_le_of_lt (Nat.lt_add_right k hp0)]
    injection h with h; subst h
    exact Sat.ok hQ
   ·have h := iteF h c2
    have c2b : (a2 == 0) = false := beqF c2
    simp only [go_sem, c1b, c2b, hp0, fun k => Nat.lt_add_right k hp0, Nat.not_le_of_lt hp0, fun k => Nat.not_le_of_lt (Nat.lt_add_right k hp0)]
    injection h with h; subst h
    exact Sat.ok hQ
  ·have h := iteF h c1
   have c1b : (a1 == 0) = false := beqF c1
   simp only [go_sem, c1b, hp0, fun k => Nat.lt_add_right k hp0, Nat.not_le_of_lt hp0, fun k => Nat.not_le_of_lt (Nat.lt_add_right k hp0)]
   refine run_whileL (c := L75_0) (live := [0, 1, 2, 7, 8]) (by simp only [go_sem]) (M := fun (s1 : Int × Int) => [(0, .ms p0 g0 1 0 l0), (1, .p (iv a1)), (2, .p (iv a2)), (7, .p (iv s1.1)), (8, .p (iv s1.2))]) (Z := fun (s1 : Int × Int) => (List.set σ p0 (.arr g0 1 (List.map (rowA rowI) a0)))) (N := fun (s1 : Int × Int) => ⟨[(7, .p (iv s1.1))], (List.set σ p0 (.arr g0 1 (List.map (rowA rowI) a0))), [], none, false⟩) h rfl rfl (fun _ => rfl) ?_ ?_
   ·intro s1 h
    try dsimp only at h ⊢
    simp only [go_sem, hp0, fun k => Nat.lt_add_right k hp0, Nat.not_le_of_lt hp0, fun k => Nat.not_le_of_lt (Nat.lt_add_right k hp0)]
    injection h with h; subst h
    exact Sat.ok hQ
   ·intro K1 k1 s1 n1 hR1 hE1 hb1 ih1 h
    try dsimp only at h ⊢
    conv => arg 1; arg 7; unfold L75_0 loopAt S01.c75 Tryd.f75; simp only [loopIn, Option.getD_some, if_true]
    by_cases c3 : s1.2 ≤ a2
    ·have h := iteT h c3
     obtain ⟨v1, e_v1, h⟩ := ob h
     obtain ⟨e_v1a, e_v1b, e_v1d⟩ := idxM_some e_v1
     by_cases c4 : 0 < v1
     ·have h := iteT h c4
      obtain ⟨v2, e_v2, h⟩ := ob h
      have e_v2c : call Tryd.prog T H (.fn 75) [.ms p0 g0 1 0 l0, .p (iv (w64 (a1 - 1))), .p (iv (w64 (a2 - s1.2)))] (List.set σ p0 (.arr g0 1 (List.map (rowA rowI) a0))) = some (.ret (.p (iv v2)), (List.set σ p0 (.arr g0 1 (List.map (rowA rowI) a0)))) := by have q := ih (List.set σ p0 (.arr g0 1 (List.map (rowA rowI) a0))) p0 g0 (by simp only [List.length_append, List.length_set, List.length_cons, List.length_nil]; omega) a0 l0 (w64 (a1 - 1)) (w64 (a2 - s1.2)) v2 e_v2; first | (simp only [go_sem, hp0, fun k => Nat.lt_add_right k hp0, Nat.not_le_of_lt hp0, fun k => Nat.not_le_of_lt (Nat.lt_add_right k hp0)] at q ⊢; exact q) | exact q
      simp only [go_sem, c3, e_v1a, e_v1b, e_v1d, c4, e_v2c, hR1, hE1, hp0, fun k => Nat.lt_add_right k hp0, Nat.not_le_of_lt hp0, fun k => Nat.not_le_of_lt (Nat.lt_add_right k hp0)]
      exact ih1 (minI (w64 (s1.1 + (w64 (v1 * v2)))) 4097, w64 (s1.2 + 1)) h
     ·have h := iteF h c4
      simp only [go_sem, c3, e_v1a, e_v1b, e_v1d, c4, hR1, hE1, hp0, fun k => Nat.lt_add_right k hp0, Nat.not_le_of_lt hp0, fun k => Nat.not_le_of_lt (Nat.lt_add_right k hp0)]
      exact ih1 (s1.1, w64 (s1.2 + 1)) h
    ·have h := iteF h c3
     simp only [go_sem, c3, hR1, hE1, hp0, fun k => Nat.lt_add_right k hp0, Nat.not_le_of_lt hp0, fun k => Nat.not_le_of_lt (Nat.lt_add_right k hp0)]
     exact hb1 (s1.1, s1.2) h
def tree_many (n : Nat) (a0 : Alphabet) (a1 : Int) : Option Int :=
 (mkz 8 (w64 (a1 + 1)) (w64 (a1 + 1)) 0).bind fun v1 =>
 whileL n (1, v1) (fun k3 (s3 : Int × (List Int)) n3 =>
  if s3.1 ≤ a1 then
   rangeL a0.Ranks s3.2 (fun k4 i4 x4 (s4 : (List Int)) n4 =>
    (idxM ((w64 (a1 + 1)).toNat) s4 s3.1).bind fun v3 =>
    (tree_listed_mxx n s4 ((w64 (a1 + 1)).toNat) x4 (w64 (s3.1 - 1))).bind fun v4 =>
    n4 (List.set s4 ((s3.1).toNat) (minI (w64 (v3 + v4)) 4097))) fun s4 =>
   n3 (w64 (s3.1 + 1), s4)
  else
   k3 (s3.1, s3.2)) fun s3 =>
 (idxM ((w64 (a1 + 1)).toNat) s3.2 a1).bind fun v2 =>
 some v2
theorem spec43 (n : Nat) (a0 : Alphabet) (a1 : Int) (r : Int) (h : tree_many n a0 a1 = some r) :
 call Tryd.prog T H (.fn 43) [.p (.agg [.sl none 1 (List.map rowI a0.Ranks)]), .p (iv a1)] [] = some (.ret (.p (iv r)), []) := by
 refine Sat.fn fun Q hQ => ?_
 unfold tree_many at h
 rw [call43]
 conv => arg 1; arg 7; unfold S01.c43 Tryd.f43; simp only [Option.getD_some]
 obtain ⟨v1, e_v1, h⟩ := ob h
 obtain ⟨e_v11, e_v12, e_v13, e_v14⟩ := mkz_some e_v1
 have e_v1b : boundOk (w64 (a1 + 1)).toNat 8 = true := bnd_of e_v13 (by decide)
 have e_v1r : List.replicate (w64 (a1 + 1)).toNat [AV.p (iv 0)] = List.map (rowA rowI) v1 := by rw [e_v14]; exact rep_map (by first | rfl | simp only [go_sem, List.map_nil])
 simp only [go_sem, e_v11, e_v12, e_v1b, e_v1r]
 refine run_whileL (c := L43_0) (live := [1, 2, 5, 6]) (by simp only [go_sem]) (M := fun (s3 : Int × (List Int)) => [(1, .p (iv a1)), (2, .ptr 0 0), (5, .ms 1 0 1 0 ((w64 (a1 + 1)).toNat)), (6, .p (iv s3.1))]) (Z := fun (s3 : Int × (List Int)) => [.cells [.p (.sl none 1 (List.map rowI a0.Ranks))], .arr 0 1 (List.map (rowA rowI) s3.2)]) (N := fun (s3 : Int × (List Int)) => ⟨[(1, .p (iv a1)), (5, .ms 1 0 1 0 ((w64 (a1 + 1)).toNat))], [.cells [.p (.sl none 1 (List.map rowI a0.Ranks))], .arr 0 1 (List.map (rowA rowI) s3.2)], [], none, false⟩) h rfl rfl (fun _ => rfl) ?_ ?_
 ·intro s3 h
  try dsimp only at h ⊢
  obtain ⟨v2, e_v2, h⟩ := ob h
  obtain ⟨e_v2a, e_v2b, e_v2d⟩ := idxM_some e_v2
  simp only [go_sem, e_v2a, e_v2b, e_v2d]
  injection h with h; subst h
  exact Sat.ok hQ
 ·intro K3 k3 s3 n3 hR3 hE3 hb3 ih3 h
  try dsimp only at h ⊢
  conv => arg 1; arg 7; unfold L43_0 loopAt S01.c43 Tryd.f43; simp only [loopIn, Option.getD_some, if_true]
  by_cases c1 : s3.1 ≤ a1
  ·have h := iteT h c1
   simp only [go_sem, c1, hR3, hE3]
   refine run_rangeL (c := L43_2) (live := [1, 2, 5, 6, 18, 19, 20]) (by simp only [go_sem]) (M := fun i4 (s4 : (List Int)) => [(1, .p (iv a1)), (2, .ptr 0 0), (5, .ms 1 0 1 0 ((w64 (a1 + 1)).toNat)), (6, .p (iv s3.1)), (18, .p (.sl none 1 (List.map rowI a0.Ranks))), (19, .p (iv (a0.Ranks.length : Int))), (20, .p (iv (i4 : Int)))]) (Z := fun i4 (s4 : (List Int)) => [.cells [.p (.sl none 1 (List.map rowI a0.Ranks))], .arr 0 1 (List.map (rowA rowI) s4)]) (N := fun (s4 : (List Int)) => ⟨[(1, .p (iv a1)), (2, .ptr 0 0), (5, .ms 1 0 1 0 ((w64 (a1 + 1)).toNat)), (6, .p (iv s3.1))], [.cells [.p (.sl none 1 (List.map rowI a0.Ranks))], .arr 0 1 (List.map (rowA rowI) s4)], [], none, false⟩) h rfl rfl (fun _ _ => rfl) ?_ ?_ ?_
   ·intro s4 h
    try dsimp only at h ⊢
    simp only [go_sem, hR3, hE3]
    exact ih3 (w64 (s3.1 + 1), s4) h
   ·intro K4 s4 hb4 he4
    try dsimp only
    conv => arg 1; arg 7; unfold L43_2 loopAt S01.c43 Tryd.f43; simp only [loopIn, Option.getD_some, if_true]
    simp only [go_sem, he4]
    exact hb4
   ·intro K4 k4 i4 x4 s4 n4 hR4 hE4 hb4 hx4 hi4 hw4 ih4 h
    try dsimp only at h ⊢
    conv => arg 1; arg 7; unfold L43_2 loopAt S01.c43 Tryd.f43; simp only [loopIn, Option.getD_some, if_true]
    obtain ⟨v3, e_v3, h⟩ := ob h
    obtain ⟨e_v3a, e_v3b, e_v3d⟩ := idxM_some e_v3
    obtain ⟨v4, e_v4, h⟩ := ob h
    have e_v4c : call Tryd.prog T H (.fn 75) [.ms 1 0 1 0 ((w64 (a1 + 1)).toNat), .p (iv x4), .p (iv (w64 (s3.1 - 1)))] [.cells [.p (.sl none 1 (List.map rowI a0.Ranks))], .arr 0 1 (List.map (rowA rowI) s4)] = some (.ret (.p (iv v4)), [.cells [.p (.sl none 1 (List.map rowI a0.Ranks))], .arr 0 1 (List.map (rowA rowI) s4)]) := by have q := spec75_mxx n [.cells [.p (.sl none 1 (List.map rowI a0.Ranks))], .arr 0 1 (List.map (rowA rowI) s4)] 1 0 (by simp only [List.length_append, List.length_set, List.length_cons, List.length_nil]; omega) s4 ((w64 (a1 + 1)).toNat) x4 (w64 (s3.1 - 1)) v4 e_v4; first | (simp only [go_sem] at q ⊢; exact q) | exact q
    have e_y1 : List.set (List.map (rowA rowI) s4) ((s3.1).toNat) [.p (iv (minI (w64 (v3 + v4)) 4097))] = List.map (rowA rowI) (List.set s4 ((s3.1).toNat) (minI (w64 (v3 + v4)) 4097)) := map_set' (by first | rfl | simp only [go_sem, List.map_cons, List.map_nil])
    simp only [go_sem, hx4, hi4, hw4, e_v3a, e_v3b, e_v3d, e_v4c, e_y1, hR3, hE3, hR4, hE4]
    exact ih4 (List.set s4 ((s3.1).toNat) (minI (w64 (v3 + v4)) 4097)) h
  ·have h := iteF h c1
   simp only [go_sem, c1, hR3, hE3]
   exact hb3 (s3.1, s3.2) h
def tree_Copy : Nat → Tree → Option Tree
 | 0, _ => none
 | n + 1, a0 =>
  rangeL a0.Kids ([] : List Tree) (fun k1 i1 x1 (s1 : (List Tree)) n1 =>
   (tree_Copy n x1).bind fun v1 =>
   (app 32 s1 [v1]).bind fun v2 =>
   n1 v2) fun s1 =>
  some (Tree.mk a0.Sym s1)
theorem spec59 : ∀ (n : Nat), (∀ (a0 : Tree) (r : Tree), tree_Copy n a0 = some r →
 call Tryd.prog T H (.fn 59) [.p (.agg [iv a0.Sym, .sl none 2 (List.map row_Tree a0.Kids)])] [] = some (.ret (.p (.agg [iv r.Sym, .sl none 2 (List.map row_Tree r.Kids)])), [])) := by
 intro n
 induction n with
 | zero => intro a0 r h; cases h
 | succ n ih =>
  intro a0 r h
  refine Sat.fn fun Q hQ => ?_
  rw [tree_Copy] at h
  rw [call59]
  conv => arg 1; arg 7; unfold S01.c59 Tryd.f59; simp only [Option.getD_some]
  simp only [go_sem]
  refine run_rangeL (c := L59_0) (live := [2, 3, 10, 11, 12]) (by simp only [go_sem]) (M := fun i1 (s1 : (List Tree)) => [(2, .ptr 1 0), (3, .ptr 2 0), (10, .p (.sl none 2 (List.map row_Tree a0.Kids))), (11, .p (iv (a0.Kids.length : Int))), (12, .p (iv (i1 : Int)))]) (Z := fun i1 (s1 : (List Tree)) => [.cells [.p (iv a0.Sym), .p (.sl none 2 (List.map row_Tree a0.Kids))], .cells [.p (iv 0), .own 2 []], .cells [.p (iv a0.Sym), .own 2 (List.map row_Tree s1)]]) (N := fun (s1 : (List Tree)) => ⟨[(2, .ptr 1 0), (3, .ptr 2 0)], [.cells [.p (iv a0.Sym), .p (.sl none 2 (List.map row_Tree a0.Kids))], .cells [.p (iv 0), .own 2 []], .cells [.p (iv a0.Sym), .own 2 (List.map row_Tree s1)]], [], none, false⟩) h rfl rfl (fun _ _ => rfl) ?_ ?_ ?_
  ·intro s1 h
   try dsimp only at h ⊢
   simp only [go_sem]
   injection h with h; subst h
   exact Sat.ok hQ
  ·intro K1 s1 hb1 he1
   try dsimp only
   conv => arg 1; arg 7; unfold L59_0 loopAt S01.c59 Tryd.f59; simp only [loopIn, Option.getD_some, if_true]
   simp only [go_sem, he1]
   exact hb1
  ·intro K1 k1 i1 x1 s1 n1 hR1 hE1 hb1 hx1 hi1 hw1 ih1 h
   try dsimp only at h ⊢
   conv => arg 1; arg 7; unfold L59_0 loopAt S01.c59 Tryd.f59; simp only [loopIn, Option.getD_some, if_true]
   obtain ⟨v1, e_v1, h⟩ := ob h
   have e_v1c := ih x1 v1 e_v1
   obtain ⟨v2, e_v2, h⟩ := ob h
   have e_v2a : boundOk (s1.length + 1) 32 = true := bnd_of (by have := (app_some e_v2).1; simpa using this) (by decide)
   have e_v2b : (List.map row_Tree s1) ++ [[iv v1.Sym, .sl none 2 (List.map row_Tree v1.Kids)]] = List.map row_Tree v2 := by rw [(app_some e_v2).2]; simp [row_Tree_eq]
   simp only [go_sem, hx1, hi1, hw1, e_v1c, e_v2a, e_v2b, hR1, hE1]
   exact ih1 v2 h
mutual
def tree_sizes : Nat → Alphabet → Int → Option (List Tree)
 | 0, _, _ => none
 | n + 1, a0, a1 =>
  rangeL a0.Ranks ([] : List Tree) (fun k9 i9 x9 (s9 : (List Tree)) n9 =>
   (tree_lists n a0 x9 (w64 (a1 - 1))).bind fun v1 =>
   rangeL v1 s9 (fun k12 i12 x12 (s12 : (List Tree)) n12 =>
    rangeL x12 ([] : List Tree) (fun k13 i13 x13 (s13 : (List Tree)) n13 =>
     (tree_Copy n x13).bind fun v3 =>
     (app 32 s13 [v3]).bind fun v4 =>
     n13 v4) fun s13 =>
    (app 32 s12 [(Tree.mk (i9 : Int) s13)]).bind fun v2 =>
    n12 v2) fun s12 =>
   n9 s12) fun s9 =>
  some s9
def tree_lists : Nat → Alphabet → Int → Int → Option (List (List Tree))
 | 0, _, _, _ => none
 | n + 1, a0, a1, a2 =>
  if a1 = 0 then
   if a2 = 0 then
    some [([] : List Tree)]
   else
    some ([] : List (List Tree))
  else
   whileL n (1, ([] : List (List Tree))) (fun k9 (s9 : Int × (List (List Tree))) n9 =>
    if s9.1 ≤ (w64 ((w64 (a2 - a1)) + 1)) then
     (tree_lists n a0 (w64 (a1 - 1)) (w64 (a2 - s9.1))).bind fun v1 =>
     if (v1.length : Int) = 0 then
      n9 (w64 (s9.1 + 1), s9.2)
     else
      (tree_sizes n a0 s9.1).bind fun v2 =>
      rangeL v2 s9.2 (fun k12 i12 x12 (s12 : (List (List Tree))) n12 =>
       rangeL v1 s12 (fun k13 i13 x13 (s13 : (List (List Tree))) n13 =>
        (app 32 [x12] x13).bind fun v3 =>
        (app 24 s13 [v3]).bind fun v4 =>
        n13 v4) fun s13 =>
       n12 s13) fun s12 =>
      n9 (w64 (s9.1 + 1), s12)
    else
     k9 (s9.1, s9.2)) fun s9 =>
   some s9.2
end
theorem specs44 : ∀ (n : Nat), (∀ (a0 : Alphabet) (a1 : Int) (r : List Tree), tree_sizes n a0 a1 = some r →
 call Tryd.prog T H (.fn 44) [.p (.agg [.sl none 1 (List.map rowI a0.Ranks)]), .p (iv a1)] [] = some (.ret (.p (.sl none 2 (List.map row_Tree r))), [])) ∧ (∀ (a0 : Alphabet) (a1 : Int) (a2 : Int) (r : List (List Tree)), tree_lists n a0 a1 a2 = some r →
 call Tryd.prog T H (.fn 76) [.p (.agg [.sl none 1 (List.map rowI a0.Ranks)]), .p (iv a1), .p (iv a2)] [] = some (.ret (.p (.sl none 1 (List.map (rowL 2 row_Tree) r))), [])) := by
 intro n
 induction n with
 | zero => refine ⟨?_, ?_⟩ <;> (intros; rename_i h; cases h)
 | succ n ih =>
  obtain ⟨ih44, ih76⟩ := ih
  refine ⟨?_, ?_⟩
  ·intro a0 a1 r h
   refine Sat.fn fun Q hQ => ?_
   rw [tree_sizes] at h
   rw [call44]
   conv => arg 1; arg 7; unfold S01.c44 Tryd.f44; simp only [Option.getD_some]
   simp only [go_sem]
   refine run_rangeL (c := L44_0) (live := [1, 2, 5, 14, 15, 16]) (by simp only [go_sem]) (M := fun i9 (s9 : (List Tree)) => [(1, .p (iv a1)), (2, .ptr 0 0), (5, .own 2 (List.map row_Tree s9)), (14, .p (.sl none 1 (List.map rowI a0.Ranks))), (15, .p (iv (a0.Ranks.length : Int))), (16, .p (iv (i9 : Int)))]) (Z := fun i9 (s9 : (List Tree)) => [.cells [.p (.sl none 1 (List.map rowI a0.Ranks))]]) (N := fun (s9 : (List Tree)) => ⟨[(5, .own 2 (List.map row_Tree s9))], [.cells [.p (.sl none 1 (List.map rowI a0.Ranks))]], [], none, false⟩) h rfl rfl (fun _ _ => rfl) ?_ ?_ ?_
   ·intro s9 h
    try dsimp only at h ⊢
    simp only [go_sem]
    injection h with h; subst h
    exact Sat.ok hQ
   ·intro K9 s9 hb9 he9
    try dsimp only
    conv => arg 1; arg 7; unfold L44_0 loopAt S01.c44 Tryd.f44; simp only [loopIn, Option.getD_some, if_true]
    simp only [go_sem, he9]
    exact hb9
   ·intro K9 k9 i9 x9 s9 n9 hR9 hE9 hb9 hx9 hi9 hw9 ih9 h
    try dsimp only at h ⊢
    conv => arg 1; arg 7; unfold L44_0 loopAt S01.c44 Tryd.f44; simp only [loopIn, Option.getD_some, if_true]
    obtain ⟨v1, e_v1, h⟩ := ob h
    have e_v1c : call Tryd.prog T H (.fn 76) [.p (.agg [.sl none 1 (List.map rowI a0.Ranks)]), .p (iv x9), .p (iv (w64 (a1 - 1)))] [] = some (.ret (.p (.sl none 1 (List.map (rowL 2 row_Tree) v1))), []) := ih76 a0 x9 (w64 (a1 - 1)) v1 e_v1
    simp only [go_sem, hx9, hi9, hw9, e_v1c, hR9, hE9]
    refine run_rangeL (c := L44_2) (live := [1, 2, 5, 6, 14, 15, 16, 25, 26, 27]) (by simp only [go_sem]) (M := fun i12 (s12 : (List Tree)) => [(1, .p (iv a1)), (2, .ptr 0 0), (5, .own 2 (List.map row_Tree s12)), (6, .p (iv (i9 : Int))), (14, .p (.sl none 1 (List.map rowI a0.Ranks))), (15, .p (iv (a0.Ranks.length : Int))), (16, .p (iv (i9 : Int))), (25, .p (.sl none 1 (List.map (rowL 2 row_Tree) v1))), (26, .p (iv (v1.length : Int))), (27, .p (iv (i12 : Int)))]) (Z := fun i12 (s12 : (List Tree)) => [.cells [.p (.sl none 1 (List.map rowI a0.Ranks))]]) (N := fun (s12 : (List Tree)) => ⟨[(1, .p (iv a1)), (2, .ptr 0 0), (5, .own 2 (List.map row_Tree s12)), (14, .p (.sl none 1 (List.map rowI a0.Ranks))), (15, .p (iv (a0.Ranks.length : Int))), (16, .p (iv (i9 : Int)))], [.cells [.p (.sl none 1 (List.map rowI a0.Ranks))]], [], none, false⟩) h rfl rfl (fun _ _ => rfl) ?_ ?_ ?_
    ·intro s12 h
     try dsimp only at h ⊢
     simp only [go_sem, hw9, hR9, hE9]
     exact ih9 s12 h
    ·intro K12 s12 hb12 he12
     try dsimp only
     conv => arg 1; arg 7; unfold L44_2 loopAt S01.c44 Tryd.f44; simp only [loopIn, Option.getD_some, if_true]
     simp only [go_sem, he12]
     exact hb12
    ·intro K12 k12 i12 x12 s12 n12 hR12 hE12 hb12 hx12 hi12 hw12 ih12 h
     try dsimp only at h ⊢
     conv => arg 1; arg 7; unfold L44_2 loopAt S01.c44 Tryd.f44; simp only [loopIn, Option.getD_some, if_true]
     simp only [go_sem, hx12, hi12, hw12, hw9, hR9, hE9, hR12, hE12]
     refine run_rangeL (c := L44_4) (live := [1, 2, 5, 6, 10, 14, 15, 16, 25, 26, 27, 33, 34, 35]) (by simp only [go_sem]) (M := fun i13 (s13 : (List Tree)) => [(1, .p (iv a1)), (2, .ptr 0 0), (5, .own 2 (List.map row_Tree s12)), (6, .p (iv (i9 : Int))), (10, .ptr 1 0), (14, .p (.sl none 1 (List.map rowI a0.Ranks))), (15, .p (iv (a0.Ranks.length : Int))), (16, .p (iv (i9 : Int))), (25, .p (.sl none 1 (List.map (rowL 2 row_Tree) v1))), (26, .p (iv (v1.length : Int))), (27, .p (iv (i12 : Int))), (33, .p (.sl none 2 (List.map row_Tree x12))), (34, .p (iv (x12.length : Int))), (35, .p (iv (i13 : Int)))]) (Z := fun i13 (s13 : (List Tree)) => [.cells [.p (.sl none 1 (List.map rowI a0.Ranks))], .cells [.p (iv (i9 : Int)), .own 2 (List.map row_Tree s13)]]) (N := fun (s13 : (List Tree)) => ⟨[(1, .p (iv a1)), (2, .ptr 0 0), (5, .own 2 (List.map row_Tree s12)), (6, .p (iv (i9 : Int))), (10, .ptr 1 0), (14, .p (.sl none 1 (List.map rowI a0.Ranks))), (15, .p (iv (a0.Ranks.length : Int))), (16, .p (iv (i9 : Int))), (25, .p (.sl none 1 (List.map (rowL 2 row_Tree) v1))), (26, .p (iv (v1.length : Int))), (27, .p (iv (i12 : Int)))], [.cells [.p (.sl none 1 (List.map rowI a0.Ranks))], .cells [.p (iv (i9 : Int)), .own 2 (List.map row_Tree s13)]], [], none, false⟩) h rfl rfl (fun _ _ => rfl) ?_ ?_ ?_
     ·intro s13 h
      try dsimp only at h ⊢
      obtain ⟨v2, e_v2, h⟩ := ob h
      have e_v2a : boundOk (s12.length + 1) 32 = true := bnd_of (by have := (app_some e_v2).1; simpa using this) (by decide)
      have e_v2b : (List.map row_Tree s12) ++ [[iv (i9 : Int), .sl none 2 (List.map row_Tree s13)]] = List.map row_Tree v2 := by rw [(app_some e_v2).2]; simp [row_Tree_eq]
      simp only [go_sem, e_v2a, e_v2b, hw9, hR9, hE9, hw12, hR12, hE12]
      exact ih12 v2 h
     ·intro K13 s13 hb13 he13
      try dsimp only
      conv => arg 1; arg 7; unfold L44_4 loopAt S01.c44 Tryd.f44; simp only [loopIn, Option.getD_some, if_true]
      simp only [go_sem, he13]
      exact hb13
     ·intro K13 k13 i13 x13 s13 n13 hR13 hE13 hb13 hx13 hi13 hw13 ih13 h
      try dsimp only at h ⊢
      conv => arg 1; arg 7; unfold L44_4 loopAt S01.c44 Tryd.f44; simp only [loopIn, Option.getD_some, if_true]
      obtain ⟨v3, e_v3, h⟩ := ob h
      have e_v3c := spec59 n x13 v3 e_v3
      obtain ⟨v4, e_v4, h⟩ := ob h
      have e_v4a : boundOk (s13.length + 1) 32 = true := bnd_of (by have := (app_some e_v4).1; simpa using this) (by decide)
      have e_v4b : (List.map row_Tree s13) ++ [[iv v3.Sym, .sl none 2 (List.map row_Tree v3.Kids)]] = List.map row_Tree v4 := by rw [(app_some e_v4).2]; simp [row_Tree_eq]
      simp only [go_sem, hx13, hi13, hw13, e_v3c, e_v4a, e_v4b, hw9, hR9, hE9, hw12, hR12, hE12, hR13, hE13]
      exact ih13 v4 h
  ·intro a0 a1 a2 r h
   refine Sat.fn fun Q hQ => ?_
   rw [tree_lists] at h
   rw [call76]
   conv => arg 1; arg 7; unfold S01.c76 Tryd.f76; simp only [Option.getD_some]
   by_cases c1 : a1 = 0
   ·have h := iteT h c1
    have c1b : (a1 == 0) = true := beqT c1
    by_cases c2 : a2 = 0
    ·have h := iteT h c2
     have c2b : (a2 == 0) = true := beqT c2
     simp only [go_sem, c1b, c2b]
     injection h with h; subst h
     simp only [List.map_cons, List.map_nil, rowL, row_Tree_eq] at hQ
     exact Sat.ok hQ
    ·have h := iteF h c2
     have c2b : (a2 == 0) = false := beqF c2
     simp only [go_sem, c1b, c2b]
     injection h with h; subst h
     exact Sat.ok hQ
   ·have h := iteF h c1
    have c1b : (a1 == 0) = false := beqF c1
    simp only [go_sem, c1b]
    refine run_whileL (c := L76_0) (live := [1, 2, 3, 7, 8]) (by simp only [go_sem]) (M := fun (s9 : Int × (List (List Tree))) => [(1, .p (iv a1)), (2, .p (iv a2)), (3, .ptr 0 0), (7, .own 1 (List.map (rowL 2 row_Tree) s9.2)), (8, .p (iv s9.1))]) (Z := fun (s9 : Int × (List (List Tree))) => [.cells [.p (.sl none 1 (List.map rowI a0.Ranks))]]) (N := fun (s9 : Int × (List (List Tree))) => ⟨[(7, .own 1 (List.map (rowL 2 row_Tree) s9.2))], [.cells [.p (.sl none 1 (List.map rowI a0.Ranks))]], [], none, false⟩) h rfl rfl (fun _ => rfl) ?_ ?_
    ·intro s9 h
     try dsimp only at h ⊢
     simp only [go_sem]
     injection h with h; subst h
     exact Sat.ok hQ
    ·intro K9 k9 s9 n9 hR9 hE9 hb9 ih9 h
     try dsimp only at h ⊢
     conv => arg 1; arg 7; unfold L76_0 loopAt S01.c76 Tryd.f76; simp only [loopIn, Option.getD_some, if_true]
     by_cases c3 : s9.1 ≤ (w64 ((w64 (a2 - a1)) + 1))
     ·have h := iteT h c3
      obtain ⟨v1, e_v1, h⟩ := ob h
      have e_v1c : call Tryd.prog T H (.fn 76) [.p (.agg [.sl none 1 (List.map rowI a0.Ranks)]), .p (iv (w64 (a1 - 1))), .p (iv (w64 (a2 - s9.1)))] [] = some (.ret (.p (.sl none 1 (List.map (rowL 2 row_Tree) v1))), []) := ih76 a0 (w64 (a1 - 1)) (w64 (a2 - s9.1)) v1 e_v1
      by_cases c4 : (v1.length : Int) = 0
      ·have h := iteT h c4
       have c4b : ((v1.length : Int) == 0) = true := beqT c4
       simp only [go_sem, c3, e_v1c, c4b, hR9, hE9]
       exact ih9 (w64 (s9.1 + 1), s9.2) h
      ·have h := iteF h c4
       have c4b : ((v1.length : Int) == 0) = false := beqF c4
       obtain ⟨v2, e_v2, h⟩ := ob h
       have e_v2c := ih44 a0 s9.1 v2 e_v2
       simp only [go_sem, c3, e_v1c, c4b, e_v2c, hR9, hE9]
       refine run_rangeL (c := L76_2) (live := [1, 2, 3, 7, 8, 9, 39, 40, 41]) (by simp only [go_sem]) (M := fun i12 (s12 : (List (List Tree))) => [(1, .p (iv a1)), (2, .p (iv a2)), (3, .ptr 0 0), (7, .own 1 (List.map (rowL 2 row_Tree) s12)), (8, .p (iv s9.1)), (9, .p (.sl none 1 (List.map (rowL 2 row_Tree) v1))), (39, .p (.sl none 2 (List.map row_Tree v2))), (40, .p (iv (v2.length : Int))), (41, .p (iv (i12 : Int)))]) (Z := fun i12 (s12 : (List (List Tree))) => [.cells [.p (.sl none 1 (List.map rowI a0.Ranks))]]) (N := fun (s12 : (List (List Tree))) => ⟨[(1, .p (iv a1)), (2, .p (iv a2)), (3, .ptr 0 0), (7, .own 1 (List.map (rowL 2 row_Tree) s12)), (8, .p (iv s9.1))], [.cells [.p (.sl none 1 (List.map rowI a0.Ranks))]], [], none, false⟩) h rfl rfl (fun _ _ => rfl) ?_ ?_ ?_
       ·intro s12 h
        try dsimp only at h ⊢
        simp only [go_sem, hR9, hE9]
        exact ih9 (w64 (s9.1 + 1), s12) h
       ·intro K12 s12 hb12 he12
        try dsimp only
        conv => arg 1; arg 7; unfold L76_2 loopAt S01.c76 Tryd.f76; simp only [loopIn, Option.getD_some, if_true]
        simp only [go_sem, he12]
        exact hb12
       ·intro K12 k12 i12 x12 s12 n12 hR12 hE12 hb12 hx12 hi12 hw12 ih12 h
        try dsimp only at h ⊢
        conv => arg 1; arg 7; unfold L76_2 loopAt S01.c76 Tryd.f76; simp only [loopIn, Option.getD_some, if_true]
        simp only [go_sem, hx12, hi12, hw12, hR9, hE9, hR12, hE12]
        refine run_rangeL (c := L76_4) (live := [1, 2, 3, 7, 8, 9, 11, 39, 40, 41, 45, 46, 47]) (by simp only [go_sem]) (M := fun i13 (s13 : (List (List Tree))) => [(1, .p (iv a1)), (2, .p (iv a2)), (3, .ptr 0 0), (7, .own 1 (List.map (rowL 2 row_Tree) s13)), (8, .p (iv s9.1)), (9, .p (.sl none 1 (List.map (rowL 2 row_Tree) v1))), (11, .ptr 1 0), (39, .p (.sl none 2 (List.map row_Tree v2))), (40, .p (iv (v2.length : Int))), (41, .p (iv (i12 : Int))), (45, .p (.sl none 1 (List.map (rowL 2 row_Tree) v1))), (46, .p (iv (v1.length : Int))), (47, .p (iv (i13 : Int)))]) (Z := fun i13 (s13 : (List (List Tree))) => [.cells [.p (.sl none 1 (List.map rowI a0.Ranks))], .cells [.p (iv x12.Sym), .p (.sl none 2 (List.map row_Tree x12.Kids))]]) (N := fun (s13 : (List (List Tree))) => ⟨[(1, .p (iv a1)), (2, .p (iv a2)), (3, .ptr 0 0), (7, .own 1 (List.map (rowL 2 row_Tree) s13)), (8, .p (iv s9.1)), (9, .p (.sl none 1 (List.map (rowL 2 row_Tree) v1))), (39, .p (.sl none 2 (List.map row_Tree v2))), (40, .p (iv (v2.length : Int))), (41, .p (iv (i12 : Int)))], [.cells [.p (.sl none 1 (List.map rowI a0.Ranks))], .cells [.p (iv x12.Sym), .p (.sl none 2 (List.map row_Tree x12.Kids))]], [], none, false⟩) h rfl rfl (fun _ _ => rfl) ?_ ?_ ?_
        ·intro s13 h
         try dsimp only at h ⊢
         simp only [go_sem, hR9, hE9, hw12, hR12, hE12]
         exact ih12 s13 h
        ·intro K13 s13 hb13 he13
         try dsimp only
         conv => arg 1; arg 7; unfold L76_4 loopAt S01.c76 Tryd.f76; simp only [loopIn, Option.getD_some, if_true]
         simp only [go_sem, he13]
         exact hb13
        ·intro K13 k13 i13 x13 s13 n13 hR13 hE13 hb13 hx13 hi13 hw13 ih13 h
         try dsimp only at h ⊢
         conv => arg 1; arg 7; unfold L76_4 loopAt S01.c76 Tryd.f76; simp only [loopIn, Option.getD_some, if_true]
         obtain ⟨v3, e_v3, h⟩ := ob h
         have e_v3a : boundOk (1 + x13.length) 32 = true := bnd_of (by have := (app_some e_v3).1; simpa using this) (by decide)
         have e_v3b : [[iv x12.Sym, .sl none 2 (List.map row_Tree x12.Kids)]] ++ (List.map row_Tree x13) = List.map row_Tree v3 := by rw [(app_some e_v3).2]; simp [row_Tree_eq]
         obtain ⟨v4, e_v4, h⟩ := ob h
         have e_v4a : boundOk (s13.length + 1) 24 = true := bnd_of (by have := (app_some e_v4).1; simpa using this) (by decide)
         have e_v4b : (List.map (rowL 2 row_Tree) s13) ++ [[.sl none 2 (List.map row_Tree v3)]] = List.map (rowL 2 row_Tree) v4 := by rw [(app_some e_v4).2]; simp [rowL, row_Tree_eq]
         simp only [go_sem, hx13, hi13, hw13, e_v3a, e_v3b, e_v4a, e_v4b, hR9, hE9, hw12, hR12, hE12, hR13, hE13]
         exact ih13 v4 h
     ·have h := iteF h c3
      simp only [go_sem, c3, hR9, hE9]
      exact hb9 (s9.1, s9.2) h
theorem spec44 (n : Nat) : (∀ (a0 : Alphabet) (a1 : Int) (r : List Tree), tree_sizes n a0 a1 = some r →
 call Tryd.prog T H (.fn 44) [.p (.agg [.sl none 1 (List.map rowI a0.Ranks)]), .p (iv a1)] [] = some (.ret (.p (.sl none 2 (List.map row_Tree r))), [])) := (specs44 n).1
def tree_All (n : Nat) (a0 : Alphabet) (a1 : Int) : Option ((List Tree) × Int) :=
 (tree_ValidAlphabet a0).bind fun v1 =>
 if v1 = true then
  if a1 < 1 then
   some (([] : List Tree), 6)
  else
   if 12 < a1 then
    some (([] : List Tree), 6)
   else
    (tree_many n a0 a1).bind fun v2 =>
    if 4096 < v2 then
     some (([] : List Tree), 3)
    else
     (tree_sizes n a0 a1).bind fun v3 =>
     some (v3, 0)
 else
  some (([] : List Tree), 1)
theorem spec12 (n : Nat) (a0 : Alphabet) (a1 : Int) (r : (List Tree) × Int) (h : tree_All n a0 a1 = some r) :
 call Tryd.prog T H (.fn 12) [.p (.agg [.sl none 1 (List.map rowI a0.Ranks)]), .p (iv a1)] [] = some (.ret (.p (.tup [.sl none 2 (List.map row_Tree r.1), iv r.2])), []) := by
 refine Sat.fn fun Q hQ => ?_
 unfold tree_All at h
 rw [call12]
 conv => arg 1; arg 7; unfold S01.c12 Tryd.f12; simp only [Option.getD_some]
 obtain ⟨v1, e_v1, h⟩ := ob h
 have e_v1c := spec15 a0 v1 e_v1
 by_cases c1 : v1 = true
 ·have h := iteT h c1
  by_cases c2 : a1 < 1
  ·have h := iteT h c2
   simp only [go_sem, e_v1c, c1, c2]
   injection h with h; subst h
   exact Sat.ok hQ
  ·have h := iteF h c2
   by_cases c3 : 12 < a1
   ·have h := iteT h c3
    simp only [go_sem, e_v1c, c1, c2, c3]
    injection h with h; subst h
    exact Sat.ok hQ
   ·have h := iteF h c3
    obtain ⟨v2, e_v2, h⟩ := ob h
    have e_v2c := spec43 n a0 a1 v2 e_v2
    by_cases c4 : 4096 < v2
    ·have h := iteT h c4
     simp only [go_sem, e_v1c, c1, c2, c3, e_v2c, c4]
     injection h with h; subst h
     exact Sat.ok hQ
    ·have h := iteF h c4
     obtain ⟨v3, e_v3, h⟩ := ob h
     have e_v3c := spec44 n a0 a1 v3 e_v3
     simp only [go_sem, e_v1c, c1, c2, c3, e_v2c, c4, e_v3c]
     injection h with h; subst h
     exact Sat.ok hQ
 ·have h := iteF h c1
  have c1 := eq_false_of_ne_true c1
  simp only [go_sem, e_v1c, c1]
  injection h with h; subst h
  exact Sat.ok hQ
def ref01_Same : Nat → Tree → Tree → Option Bool
 | 0, _, _ => none
 | n + 1, a0, a1 =>
  if a0.Sym = a1.Sym then
   if (a0.Kids.length : Int) = (a1.Kids.length : Int) then
    rangeL a0.Kids () (fun k1 i1 x1 (s1 : Unit) n1 =>
     (a1.Kids[i1]?).bind fun v1 =>
     (ref01_Same n x1 v1).bind fun v2 =>
     if v2 = true then
      n1 ()
     else
      some false) fun s1 =>
    some true
   else
    some false
  else
   some false
theorem spec24 : ∀ (n : Nat), (∀ (a0 : Tree) (a1 : Tree) (r : Bool), ref01_Same n a0 a1 = some r →
 call Tryd.prog T H (.fn 24) [.p (.agg [iv a0.Sym, .sl none 2 (List.map row_Tree a0.Kids)]), .p (.agg [iv a1.Sym, .sl none 2 (List.map row_Tree a1.Kids)])] [] = some (.ret (.p (bv r)), [])) := by
 intro n
 induction n with
 | zero => intro a0 a1 r h; cases h
 | succ n ih =>
  intro a0 a1 r h
  refine Sat.fn fun Q hQ => ?_
  rw [ref01_Same] at h
  rw [call24]
  conv => arg 1; arg 7; unfold S01.c24 Tryd.f24; simp only [Option.getD_some]
  by_cases c1 : a0.Sym = a1.Sym
  ·have h := iteT h c1
   have c1b : (a0.Sym != a1.Sym) = false := bneF c1
   by_cases c2 : (a0.Kids.length : Int) = (a1.Kids.length : Int)
   ·have h := iteT h c2
    have c2b : ((a0.Kids.length : Int) != (a1.Kids.length : Int)) = false := bneF c2
    simp only [go_sem, c1b, c2b]
    refine run_rangeL (c := L24_0) (live := [2, 3, 22, 23]) (by simp only [go_sem]) (M := fun i1 (s1 : Unit) => [(2, .ptr 0 0), (3, .ptr 1 0), (22, .p (iv (a0.Kids.length : Int))), (23, .p (iv (i1 : Int)))]) (Z := fun i1 (s1 : Unit) => [.cells [.p (iv a0.Sym), .p (.sl none 2 (List.map row_Tree a0.Kids))], .cells [.p (iv a1.Sym), .p (.sl none 2 (List.map row_Tree a1.Kids))]]) (N := fun (s1 : Unit) => ⟨[], [.cells [.p (iv a0.Sym), .p (.sl none 2 (List.map row_Tree a0.Kids))], .cells [.p (iv a1.Sym), .p (.sl none 2 (List.map row_Tree a1.Kids))]], [], none, false⟩) h rfl rfl (fun _ _ => rfl) ?_ ?_ ?_
    ·intro s1 h
     try dsimp only at h ⊢
     simp only [go_sem]
     injection h with h; subst h
     exact Sat.ok hQ
    ·intro K1 s1 hb1 he1
     try dsimp only
     conv => arg 1; arg 7; unfold L24_0 loopAt S01.c24 Tryd.f24; simp only [loopIn, Option.getD_some, if_true]
     simp only [go_sem, he1]
     exact hb1
    ·intro K1 k1 i1 x1 s1 n1 hR1 hE1 hb1 hx1 hi1 hw1 ih1 h
     try dsimp only at h ⊢
     conv => arg 1; arg 7; unfold L24_0 loopAt S01.c24 Tryd.f24; simp only [loopIn, Option.getD_some, if_true]
     obtain ⟨v1, e_v1, h⟩ := ob h
     obtain ⟨v2, e_v2, h⟩ := ob h
     have e_v2c := ih x1 v1 v2 e_v2
     by_cases c3 : v2 = true
     ·have h := iteT h c3
      simp only [go_sem, hx1, hi1, hw1, e_v1, e_v2c, c3, hR1, hE1]
      exact ih1 () h
     ·have h := iteF h c3
      have c3 := eq_false_of_ne_true c3
      simp only [go_sem, hx1, hi1, hw1, e_v1, e_v2c, c3, hR1, hE1]
      injection h with h; subst h
      exact Sat.ok hQ
   ·have h := iteF h c2
    have c2b : ((a0.Kids.length : Int) != (a1.Kids.length : Int)) = true := bneT c2
    simp only [go_sem, c1b, c2b]
    injection h with h; subst h
    exact Sat.ok hQ
  ·have h := iteF h c1
   have c1b : (a0.Sym != a1.Sym) = true := bneT c1
   simp only [go_sem, c1b]
   injection h with h; subst h
   exact Sat.ok hQ
def ref01_SameTrees (n : Nat) (a0 : List Tree) (a1 : List Tree) : Option Bool :=
 if (a0.length : Int) = (a1.length : Int) then
  rangeL a0 () (fun k1 i1 x1 (s1 : Unit) n1 =>
   (a1[i1]?).bind fun v1 =>
   (ref01_Same n x1 v1).bind fun v2 =>
   if v2 = true then
    n1 ()
   else
    some false) fun s1 =>
  some true
 else
  some false
theorem spec14 (n : Nat) (a0 : List Tree) (a1 : List Tree) (r : Bool) (h : ref01_SameTrees n a0 a1 = some r) :
 call Tryd.prog T H (.fn 14) [.p (.sl none 2 (List.map row_Tree a0)), .p (.sl none 2 (List.map row_Tree a1))] [] = some (.ret (.p (bv r)), []) := by
 refine Sat.fn fun Q hQ => ?_
 unfold ref01_SameTrees at h
 rw [call14]
 conv => arg 1; arg 7; unfold S01.c14 Tryd.f14; simp only [Option.getD_some]
 by_cases c1 : (a0.length : Int) = (a1.length : Int)
 ·have h := iteT h c1
  have c1b : ((a0.length : Int) != (a1.length : Int)) = false := bneF c1
  simp only [go_sem, c1b]
  refine run_rangeL (c := L14_0) (live := [0, 1, 12, 13]) (by simp only [go_sem]) (M := fun i1 (s1 : Unit) => [(0, .p (.sl none 2 (List.map row_Tree a0))), (1, .p (.sl none 2 (List.map row_Tree a1))), (12, .p (iv (a0.length : Int))), (13, .p (iv (i1 : Int)))]) (Z := fun i1 (s1 : Unit) => []) (N := fun (s1 : Unit) => ⟨[], [], [], none, false⟩) h rfl rfl (fun _ _ => rfl) ?_ ?_ ?_
  ·intro s1 h
   try dsimp only at h ⊢
   simp only [go_sem]
   injection h with h; subst h
   exact Sat.ok hQ
  ·intro K1 s1 hb1 he1
   try dsimp only
   conv => arg 1; arg 7; unfold L14_0 loopAt S01.c14 Tryd.f14; simp only [loopIn, Option.getD_some, if_true]
   simp only [go_sem, he1]
   exact hb1
  ·intro K1 k1 i1 x1 s1 n1 hR1 hE1 hb1 hx1 hi1 hw1 ih1 h
   try dsimp only at h ⊢
   conv => arg 1; arg 7; unfold L14_0 loopAt S01.c14 Tryd.f14; simp only [loopIn, Option.getD_some, if_true]
   obtain ⟨v1, e_v1, h⟩ := ob h
   obtain ⟨v2, e_v2, h⟩ := ob h
   have e_v2c := spec24 n x1 v1 v2 e_v2
   by_cases c2 : v2 = true
   ·have h := iteT h c2
    simp only [go_sem, hx1, hi1, hw1, e_v1, e_v2c, c2, hR1, hE1]
    exact ih1 () h
   ·have h := iteF h c2
    have c2 := eq_false_of_ne_true c2
    simp only [go_sem, hx1, hi1, hw1, e_v1, e_v2c, c2, hR1, hE1]
    injection h with h; subst h
    exact Sat.ok hQ
 ·have h := iteF h c1
  have c1b : ((a0.length : Int) != (a1.length : Int)) = true := bneT c1
  simp only [go_sem, c1b]
  injection h with h; subst h
  exact Sat.ok hQ
def tree_formed : Nat → Alphabet → Tree → Int → Option (Bool × Int)
 | 0, _, _, _ => none
 | n + 1, a0, a1, a2 =>
  if (w64 (a2 - 1)) < 0 then
   some (false, w64 (a2 - 1))
  else
   if a1.Sym < 0 then
    some (false, w64 (a2 - 1))
   else
    if (a0.Ranks.length : Int) ≤ a1.Sym then
     some (false, w64 (a2 - 1))
    else
     (idx a0.Ranks a1.Sym).bind fun v1 =>
     if (a1.Kids.length : Int) = v1 then
      rangeL a1.Kids (w64 (a2 - 1)) (fun k1 i1 x1 (s1 : Int) n1 =>
       (tree_formed n a0 x1 s1).bind fun v2 =>
       if v2.1 = true then
        n1 v2.2
       else
        some (false, v2.2)) fun s1 =>
      some (true, s1)
     else
      some (false, w64 (a2 - 1))
theorem spec49 : ∀ (n : Nat), (∀ (σ : List AObj) (p2 : Nat) (hp2 : p2 < σ.length) (a0 : Alphabet) (a1 : Tree) (a2 : Int) (r : Bool × Int), tree_formed n a0 a1 a2 = some r →
 call Tryd.prog T H (.fn 49) [.p (.agg [.sl none 1 (List.map rowI a0.Ranks)]), .p (.agg [iv a1.Sym, .sl none 2 (List.map row_Tree a1.Kids)]), .ptr p2 0] (List.set σ p2 (.cells [.p (iv a2)])) = some (.ret (.p (bv r.1)), (List.set σ p2 (.cells [.p (iv r.2)])))) := by
 intro n
 induction n with
 | zero => intro σ p2 hp2 a0 a1 a2 r h; cases h
 | succ n ih =>
  intro σ p2 hp2 a0 a1 a2 r h
  refine Sat.fn fun Q hQ => ?_
  rw [tree_formed] at h
  rw [call49]
  conv => arg 1; arg 7; unfold S01.c49 Tryd.f49; simp only [Option.getD_some]
  by_cases c1 : (w64 (a2 - 1)) < 0
  ·have h := iteT h c1
   simp only [go_sem, c1, hp2, fun k => Nat.lt_add_right k hp2, Nat.not_le_of_lt hp2, fun k => Nat.not_le_of_lt (Nat.lt_add_right k hp2)]
   injection h with h; subst h
   exact Sat.ok hQ
  ·have h := iteF h c1
   by_cases c2 : a1.Sym < 0
   ·have h := iteT h c2
    simp only [go_sem, c1, c2, hp2, fun k => Nat.lt_add_right k hp2, Nat.not_le_of_lt hp2, fun k => Nat.not_le_of_lt (Nat.lt_add_right k hp2)]
    injection h with h; subst h
    exact Sat.ok hQ
   ·have h := iteF h c2
    by_cases c3 : (a0.Ranks.length : Int) ≤ a1.Sym
    ·have h := iteT h c3
     simp only [go_sem, c1, c2, c3, hp2, fun k => Nat.lt_add_right k hp2, Nat.not_le_of_lt hp2, fun k => Nat.not_le_of_lt (Nat.lt_add_right k hp2)]
     injection h with h; subst h
     exact Sat.ok hQ
    ·have h := iteF h c3
     obtain ⟨v1, e_v1, h⟩ := ob h
     obtain ⟨e_v1a, e_v1b⟩ := idx_some e_v1
     by_cases c4 : (a1.Kids.length : Int) = v1
     ·have h := iteT h c4
      have c4b : ((a1.Kids.length : Int) != v1) = false := bneF c4
      simp only [go_sem, c1, c2, c3, e_v1a, e_v1b, c4b, hp2, fun k => Nat.lt_add_right k hp2, Nat.not_le_of_lt hp2, fun k => Nat.not_le_of_lt (Nat.lt_add_right k hp2)]
      refine run_rangeL (c := L49_0) (live := [2, 3, 44, 45, 46]) (by simp only [go_sem]) (M := fun i1 (s1 : Int) => [(2, .ptr p2 0), (3, .ptr σ.length 0), (44, .p (.sl none 2 (List.map row_Tree a1.Kids))), (45, .p (iv (a1.Kids.length : Int))), (46, .p (iv (i1 : Int)))]) (Z := fun i1 (s1 : Int) => ((List.set σ p2 (.cells [.p (iv s1)])) ++ [.cells [.p (.sl none 1 (List.map rowI a0.Ranks))], .cells [.p (iv a1.Sym), .p (.sl none 2 (List.map row_Tree a1.Kids))]])) (N := fun (s1 : Int) => ⟨[], ((List.set σ p2 (.cells [.p (iv s1)])) ++ [.cells [.p (.sl none 1 (List.map rowI a0.Ranks))], .cells [.p (iv a1.Sym), .p (.sl none 2 (List.map row_Tree a1.Kids))]]), [], none, false⟩) h rfl rfl (fun _ _ => rfl) ?_ ?_ ?_
      ·intro s1 h
       try dsimp only at h ⊢
       simp only [go_sem, hp2, fun k => Nat.lt_add_right k hp2, Nat.not_le_of_lt hp2, fun k => Nat.not_le_of_lt (Nat.lt_add_right k hp2)]
       injection h with h; subst h
       exact Sat.ok hQ
      ·intro K1 s1 hb1 he1
       try dsimp only
       conv => arg 1; arg 7; unfold L49_0 loopAt S01.c49 Tryd.f49; simp only [loopIn, Option.getD_some, if_true]
       simp only [go_sem, he1, hp2, fun k => Nat.lt_add_right k hp2, Nat.not_le_of_lt hp2, fun k => Nat.not_le_of_lt (Nat.lt_add_right k hp2)]
       exact hb1
      ·intro K1 k1 i1 x1 s1 n1 hR1 hE1 hb1 hx1 hi1 hw1 ih1 h
       try dsimp only at h ⊢
       conv => arg 1; arg 7; unfold L49_0 loopAt S01.c49 Tryd.f49; simp only [loopIn, Option.getD_some, if_true]
       obtain ⟨v2, e_v2, h⟩ := ob h
       have e_v2c : call Tryd.prog T H (.fn 49) [.p (.agg [.sl none 1 (List.map rowI a0.Ranks)]), .p (.agg [iv x1.Sym, .sl none 2 (List.map row_Tree x1.Kids)]), .ptr p2 0] ((List.set σ p2 (.cells [.p (iv s1)])) ++ [.cells [.p (.sl none 1 (List.map rowI a0.Ranks))], .cells [.p (iv a1.Sym), .p (.sl none 2 (List.map row_Tree a1.Kids))], .cells [.p (iv x1.Sym), .p (.sl none 2 (List.map row_Tree x1.Kids))]]) = some (.ret (.p (bv v2.1)), ((List.set σ p2 (.cells [.p (iv v2.2)])) ++ [.cells [.p (.sl none 1 (List.map rowI a0.Ranks))], .cells [.p (iv a1.Sym), .p (.sl none 2 (List.map row_Tree a1.Kids))], .cells [.p (iv x1.Sym), .p (.sl none 2 (List.map row_Tree x1.Kids))]])) := by have q := ih ((List.set σ p2 (.cells [.p (iv s1)])) ++ [.cells [.p (.sl none 1 (List.map rowI a0.Ranks))], .cells [.p (iv a1.Sym), .p (.sl none 2 (List.map row_Tree a1.Kids))], .cells [.p (iv x1.Sym), .p (.sl none 2 (List.map row_Tree x1.Kids))]]) p2 (by simp only [List.length_append, List.length_set, List.length_cons, List.length_nil]; omega) a0 x1 s1 v2 e_v2; first | (simp only [go_sem, hp2, fun k => Nat.lt_add_right k hp2, Nat.not_le_of_lt hp2, fun k => Nat.not_le_of_lt (Nat.lt_add_right k hp2)] at q ⊢; exact q) | exact q
       by_cases c5 : v2.1 = true
       ·have h := iteT h c5
        simp only [go_sem, hx1, hi1, hw1, e_v2c, c5, hR1, hE1, hp2, fun k => Nat.lt_add_right k hp2, Nat.not_le_of_lt hp2, fun k => Nat.not_le_of_lt (Nat.lt_add_right k hp2)]
        exact ih1 v2.2 h
       ·have h := iteF h c5
        have c5 := eq_false_of_ne_true c5
        simp only [go_sem, hx1, hi1, hw1, e_v2c, c5, hR1, hE1, hp2, fun k => Nat.lt_add_right k hp2, Nat.not_le_of_lt hp2, fun k => Nat.not_le_of_lt (Nat.lt_add_right k hp2)]
        injection h with h; subst h
        exact Sat.ok hQ
     ·have h := iteF h c4
      have c4b : ((a1.Kids.length : Int) != v1) = true := bneT c4
      simp only [go_sem, c1, c2, c3, e_v1a, e_v1b, c4b, hp2, fun k => Nat.lt_add_right k hp2, Nat.not_le_of_lt hp2, fun k => Nat.not_le_of_lt (Nat.lt_add_right k hp2)]
      injection h with h; subst h
      exact Sat.ok hQ
def tree_Valid (n : Nat) (a0 : Alphabet) (a1 : Tree) : Option Bool :=
 (tree_ValidAlphabet a0).bind fun v1 =>
 if v1 = true then
  (tree_formed n a0 a1 300).bind fun v2 =>
  some v2.1
 else
  some false
theorem spec17 (n : Nat) (a0 : Alphabet) (a1 : Tree) (r : Bool) (h : tree_Valid n a0 a1 = some r) :
 call Tryd.prog T H (.fn 17) [.p (.agg [.sl none 1 (List.map rowI a0.Ranks)]), .p (.agg [iv a1.Sym, .sl none 2 (List.map row_Tree a1.Kids)])] [] = some (.ret (.p (bv r)), []) := by
 refine Sat.fn fun Q hQ => ?_
 unfold tree_Valid at h
 rw [call17]
 conv => arg 1; arg 7; unfold S01.c17 Tryd.f17; simp only [Option.getD_some]
 obtain ⟨v1, e_v1, h⟩ := ob h
 have e_v1c := spec15 a0 v1 e_v1
 by_cases c1 : v1 = true
 ·have h := iteT h c1
  obtain ⟨v2, e_v2, h⟩ := ob h
  have e_v2c : call Tryd.prog T H (.fn 49) [.p (.agg [.sl none 1 (List.map rowI a0.Ranks)]), .p (.agg [iv a1.Sym, .sl none 2 (List.map row_Tree a1.Kids)]), .ptr 2 0] [.cells [.p (.sl none 1 (List.map rowI a0.Ranks))], .cells [.p (iv a1.Sym), .p (.sl none 2 (List.map row_Tree a1.Kids))], .cells [.p (iv 300)]] = some (.ret (.p (bv v2.1)), [.cells [.p (.sl none 1 (List.map rowI a0.Ranks))], .cells [.p (iv a1.Sym), .p (.sl none 2 (List.map row_Tree a1.Kids))], .cells [.p (iv v2.2)]]) := by have q := spec49 n [.cells [.p (.sl none 1 (List.map rowI a0.Ranks))], .cells [.p (iv a1.Sym), .p (.sl none 2 (List.map row_Tree a1.Kids))], .cells [.p (iv 300)]] 2 (by simp only [List.length_append, List.length_set, List.length_cons, List.length_nil]; omega) a0 a1 300 v2 e_v2; first | (simp only [go_sem] at q ⊢; exact q) | exact q
  simp only [go_sem, e_v1c, c1, e_v2c]
  injection h with h; subst h
  exact Sat.ok hQ
 ·have h := iteF h c1
  have c1 := eq_false_of_ne_true c1
  simp only [go_sem, e_v1c, c1]
  injection h with h; subst h
  exact Sat.ok hQ
def ref01_List (a0 : List Int) (a1 : List Int) : Option Bool :=
 if (a0.length : Int) = (a1.length : Int) then
  rangeL a0 () (fun k1 i1 x1 (s1 : Unit) n1 =>
   (a1[i1]?).bind fun v1 =>
   if x1 = v1 then
    n1 ()
   else
    some false) fun s1 =>
  some true
 else
  some false
theorem spec63 (a0 : List Int) (a1 : List Int) (r : Bool) (h : ref01_List a0 a1 = some r) :
 call Tryd.prog T H (.fn 63) [.p (.sl none 1 (List.map rowI a0)), .p (.sl none 1 (List.map rowI a1))] [] = some (.ret (.p (bv r)), []) := by
 refine Sat.fn fun Q hQ => ?_
 unfold ref01_List at h
 rw [call63]
 conv => arg 1; arg 7; unfold S01.c63 Tryd.f63; simp only [Option.getD_some]
 by_cases c1 : (a0.length : Int) = (a1.length : Int)
 ·have h := iteT h c1
  have c1b : ((a0.length : Int) != (a1.length : Int)) = false := bneF c1
  simp only [go_sem, c1b]
  refine run_rangeL (c := L63_0) (live := [0, 1, 12, 13]) (by simp only [go_sem]) (M := fun i1 (s1 : Unit) => [(0, .p (.sl none 1 (List.map rowI a0))), (1, .p (.sl none 1 (List.map rowI a1))), (12, .p (iv (a0.length : Int))), (13, .p (iv (i1 : Int)))]) (Z := fun i1 (s1 : Unit) => []) (N := fun (s1 : Unit) => ⟨[], [], [], none, false⟩) h rfl rfl (fun _ _ => rfl) ?_ ?_ ?_
  ·intro s1 h
   try dsimp only at h ⊢
   simp only [go_sem]
   injection h with h; subst h
   exact Sat.ok hQ
  ·intro K1 s1 hb1 he1
   try dsimp only
   conv => arg 1; arg 7; unfold L63_0 loopAt S01.c63 Tryd.f63; simp only [loopIn, Option.getD_some, if_true]
   simp only [go_sem, he1]
   exact hb1
  ·intro K1 k1 i1 x1 s1 n1 hR1 hE1 hb1 hx1 hi1 hw1 ih1 h
   try dsimp only at h ⊢
   conv => arg 1; arg 7; unfold L63_0 loopAt S01.c63 Tryd.f63; simp only [loopIn, Option.getD_some, if_true]
   obtain ⟨v1, e_v1, h⟩ := ob h
   by_cases c2 : x1 = v1
   ·have h := iteT h c2
    have c2b : (x1 != v1) = false := bneF c2
    simp only [go_sem, hx1, hi1, hw1, e_v1, c2b, hR1, hE1]
    exact ih1 () h
   ·have h := iteF h c2
    have c2b : (x1 != v1) = true := bneT c2
    simp only [go_sem, hx1, hi1, hw1, e_v1, c2b, hR1, hE1]
    injection h with h; subst h
    exact Sat.ok hQ
 ·have h := iteF h c1
  have c1b : ((a0.length : Int) != (a1.length : Int)) = true := bneT c1
  simp only [go_sem, c1b]
  injection h with h; subst h
  exact Sat.ok hQ
def ref01_SameLists (a0 : List (List Int)) (a1 : List (List Int)) : Option Bool :=
 if (a0.length : Int) = (a1.length : Int) then
  rangeL a0 () (fun k1 i1 x1 (s1 : Unit) n1 =>
   (a1[i1]?).bind fun v1 =>
   (ref01_List x1 v1).bind fun v2 =>
   if v2 = true then
    n1 ()
   else
    some false) fun s1 =>
  some true
 else
  some false
theorem spec33 (a0 : List (List Int)) (a1 : List (List Int)) (r : Bool) (h : ref01_SameLists a0 a1 = some r) :
 call Tryd.prog T H (.fn 33) [.p (.sl none 1 (List.map (rowL 1 rowI) a0)), .p (.sl none 1 (List.map (rowL 1 rowI) a1))] [] = some (.ret (.p (bv r)), []) := by
 refine Sat.fn fun Q hQ => ?_
 unfold ref01_SameLists at h
 rw [call33]
 conv => arg 1; arg 7; unfold S01.c33 Tryd.f33; simp only [Option.getD_some]
 by_cases c1 : (a0.length : Int) = (a1.length : Int)
 ·have h := iteT h c1
  have c1b : ((a0.length : Int) != (a1.length : Int)) = false := bneF c1
  simp only [go_sem, c1b]
  refine run_rangeL (c := L33_0) (live := [0, 1, 12, 13]) (by simp only [go_sem]) (M := fun i1 (s1 : Unit) => [(0, .p (.sl none 1 (List.map (rowL 1 rowI) a0))), (1, .p (.sl none 1 (List.map (rowL 1 rowI) a1))), (12, .p (iv (a0.length : Int))), (13, .p (iv (i1 : Int)))]) (Z := fun i1 (s1 : Unit) => []) (N := fun (s1 : Unit) => ⟨[], [], [], none, false⟩) h rfl rfl (fun _ _ => rfl) ?_ ?_ ?_
  ·intro s1 h
   try dsimp only at h ⊢
   simp only [go_sem]
   injection h with h; subst h
   exact Sat.ok hQ
  ·intro K1 s1 hb1 he1
   try dsimp only
   conv => arg 1; arg 7; unfold L33_0 loopAt S01.c33 Tryd.f33; simp only [loopIn, Option.getD_some, if_true]
   simp only [go_sem, he1]
   exact hb1
  ·intro K1 k1 i1 x1 s1 n1 hR1 hE1 hb1 hx1 hi1 hw1 ih1 h
   try dsimp only at h ⊢
   conv => arg 1; arg 7; unfold L33_0 loopAt S01.c33 Tryd.f33; simp only [loopIn, Option.getD_some, if_true]
   obtain ⟨v1, e_v1, h⟩ := ob h
   obtain ⟨v2, e_v2, h⟩ := ob h
   have e_v2c := spec63 x1 v1 v2 e_v2
   by_cases c2 : v2 = true
   ·have h := iteT h c2
    simp only [go_sem, hx1, hi1, hw1, e_v1, e_v2c, c2, hR1, hE1]
    exact ih1 () h
   ·have h := iteF h c2
    have c2 := eq_false_of_ne_true c2
    simp only [go_sem, hx1, hi1, hw1, e_v1, e_v2c, c2, hR1, hE1]
    injection h with h; subst h
    exact Sat.ok hQ
 ·have h := iteF h c1
  have c1b : ((a0.length : Int) != (a1.length : Int)) = true := bneT c1
  simp only [go_sem, c1b]
  injection h with h; subst h
  exact Sat.ok hQ
def law01_f (a0 : Tree) (a1 : Tree) : Option Tree :=
 some (Tree.mk 1 [a0, a1])
theorem spec39 (a0 : Tree) (a1 : Tree) (r : Tree) (h : law01_f a0 a1 = some r) :
 call Tryd.prog T H (.fn 39) [.p (.agg [iv a0.Sym, .sl none 2 (List.map row_Tree a0.Kids)]), .p (.agg [iv a1.Sym, .sl none 2 (List.map row_Tree a1.Kids)])] [] = some (.ret (.p (.agg [iv r.Sym, .sl none 2 (List.map row_Tree r.Kids)])), []) := by
 refine Sat.fn fun Q hQ => ?_
 unfold law01_f at h
 rw [call39]
 conv => arg 1; arg 7; unfold S01.c39 Tryd.f39; simp only [Option.getD_some]
 simp only [go_sem]
 injection h with h; subst h
 simp only [List.map_cons, List.map_nil, row_Tree_eq] at hQ
 exact Sat.ok hQ
def law01_leaf  : Option Tree :=
 some (Tree.mk 0 ([] : List Tree))
theorem spec40  (r : Tree) (h : law01_leaf = some r) :
 call Tryd.prog T H (.fn 40) [] [] = some (.ret (.p (.agg [iv r.Sym, .sl none 2 (List.map row_Tree r.Kids)])), []) := by
 refine Sat.fn fun Q hQ => ?_
 unfold law01_leaf at h
 rw [call40]
 conv => arg 1; arg 7; unfold S01.c40 Tryd.f40; simp only [Option.getD_some]
 simp only [go_sem]
 injection h with h; subst h
 exact Sat.ok hQ
def ref01_ValidAlphabet (a0 : Alphabet) : Option Bool :=
 if 12 < (a0.Ranks.length : Int) then
  some false
 else
  rangeL a0.Ranks () (fun k1 i1 x1 (s1 : Unit) n1 =>
   if x1 < 0 then
    some false
   else
    if 3 < x1 then
     some false
    else
     n1 ()) fun s1 =>
  some true
theorem spec16 (a0 : Alphabet) (r : Bool) (h : ref01_ValidAlphabet a0 = some r) :
 call Tryd.prog T H (.fn 16) [.p (.agg [.sl none 1 (List.map rowI a0.Ranks)])] [] = some (.ret (.p (bv r)), []) := by
 refine Sat.fn fun Q hQ => ?_
 unfold ref01_ValidAlphabet at h
 rw [call16]
 conv => arg 1; arg 7; unfold S01.c16 Tryd.f16; simp only [Option.getD_some]
 by_cases c1 : 12 < (a0.Ranks.length : Int)
 ·have h := iteT h c1
  simp only [go_sem, c1]
  injection h with h; subst h
  exact Sat.ok hQ
 ·have h := iteF h c1
  simp only [go_sem, c1]
  refine run_rangeL (c := L16_0) (live := [10, 11, 12]) (by simp only [go_sem]) (M := fun i1 (s1 : Unit) => [(10, .p (.sl none 1 (List.map rowI a0.Ranks))), (11, .p (iv (a0.Ranks.length : Int))), (12, .p (iv (i1 : Int)))]) (Z := fun i1 (s1 : Unit) => [.cells [.p (.sl none 1 (List.map rowI a0.Ranks))]]) (N := fun (s1 : Unit) => ⟨[], [.cells [.p (.sl none 1 (List.map rowI a0.Ranks))]], [], none, false⟩) h rfl rfl (fun _ _ => rfl) ?_ ?_ ?_
  ·intro s1 h
   try dsimp only at h ⊢
   simp only [go_sem]
   injection h with h; subst h
   exact Sat.ok hQ
  ·intro K1 s1 hb1 he1
   try dsimp only
   conv => arg 1; arg 7; unfold L16_0 loopAt S01.c16 Tryd.f16; simp only [loopIn, Option.getD_some, if_true]
   simp only [go_sem, he1]
   exact hb1
  ·intro K1 k1 i1 x1 s1 n1 hR1 hE1 hb1 hx1 hi1 hw1 ih1 h
   try dsimp only at h ⊢
   conv => arg 1; arg 7; unfold L16_0 loopAt S01.c16 Tryd.f16; simp only [loopIn, Option.getD_some, if_true]
   by_cases c2 : x1 < 0
   ·have h := iteT h c2
    simp only [go_sem, hx1, hi1, hw1, c2, hR1, hE1]
    injection h with h; subst h
    exact Sat.ok hQ
   ·have h := iteF h c2
    by_cases c3 : 3 < x1
    ·have h := iteT h c3
     simp only [go_sem, hx1, hi1, hw1, c2, c3, hR1, hE1]
     injection h with h; subst h
     exact Sat.ok hQ
    ·have h := iteF h c3
     simp only [go_sem, hx1, hi1, hw1, c2, c3, hR1, hE1]
     exact ih1 () h
def ref01_shaped : Nat → Alphabet → Tree → Option Bool
 | 0, _, _ => none
 | n + 1, a0, a1 =>
  if a1.Sym < 0 then
   some false
  else
   if (a0.Ranks.length : Int) ≤ a1.Sym then
    some false
   else
    (idx a0.Ranks a1.Sym).bind fun v1 =>
    if (a1.Kids.length : Int) = v1 then
     rangeL a1.Kids () (fun k1 i1 x1 (s1 : Unit) n1 =>
      (ref01_shaped n a0 x1).bind fun v2 =>
      if v2 = true then
       n1 ()
      else
       some false) fun s1 =>
     some true
    else
     some false
theorem spec50 : ∀ (n : Nat), (∀ (a0 : Alphabet) (a1 : Tree) (r : Bool), ref01_shaped n a0 a1 = some r →
 call Tryd.prog T H (.fn 50) [.p (.agg [.sl none 1 (List.map rowI a0.Ranks)]), .p (.agg [iv a1.Sym, .sl none 2 (List.map row_Tree a1.Kids)])] [] = some (.ret (.p (bv r)), [])) := by
 intro n
 induction n with
 | zero => intro a0 a1 r h; cases h
 | succ n ih =>
  intro a0 a1 r h
  refine Sat.fn fun Q hQ => ?_
  rw [ref01_shaped] at h
  rw [call50]
  conv => arg 1; arg 7; unfold S01.c50 Tryd.f50; simp only [Option.getD_some]
  by_cases c1 : a1.Sym < 0
  ·have h := iteT h c1
   simp only [go_sem, c1]
   injection h with h; subst h
   exact Sat.ok hQ
  ·have h := iteF h c1
   by_cases c2 : (a0.Ranks.length : Int) ≤ a1.Sym
   ·have h := iteT h c2
    simp only [go_sem, c1, c2]
    injection h with h; subst h
    exact Sat.ok hQ
   ·have h := iteF h c2
    obtain ⟨v1, e_v1, h⟩ := ob h
    obtain ⟨e_v1a, e_v1b⟩ := idx_some e_v1
    by_cases c3 : (a1.Kids.length : Int) = v1
    ·have h := iteT h c3
     have c3b : ((a1.Kids.length : Int) != v1) = false := bneF c3
     simp only [go_sem, c1, c2, e_v1a, e_v1b, c3b]
     refine run_rangeL (c := L50_0) (live := [2, 31, 32, 33]) (by simp only [go_sem]) (M := fun i1 (s1 : Unit) => [(2, .ptr 0 0), (31, .p (.sl none 2 (List.map row_Tree a1.Kids))), (32, .p (iv (a1.Kids.length : Int))), (33, .p (iv (i1 : Int)))]) (Z := fun i1 (s1 : Unit) => [.cells [.p (.sl none 1 (List.map rowI a0.Ranks))], .cells [.p (iv a1.Sym), .p (.sl none 2 (List.map row_Tree a1.Kids))]]) (N := fun (s1 : Unit) => ⟨[], [.cells [.p (.sl none 1 (List.map rowI a0.Ranks))], .cells [.p (iv a1.Sym), .p (.sl none 2 (List.map row_Tree a1.Kids))]], [], none, false⟩) h rfl rfl (fun _ _ => rfl) ?_ ?_ ?_
     ·intro s1 h
      try dsimp only at h ⊢
      simp only [go_sem]
      injection h with h; subst h
      exact Sat.ok hQ
     ·intro K1 s1 hb1 he1
      try dsimp only
      conv => arg 1; arg 7; unfold L50_0 loopAt S01.c50 Tryd.f50; simp only [loopIn, Option.getD_some, if_true]
      simp only [go_sem, he1]
      exact hb1
     ·intro K1 k1 i1 x1 s1 n1 hR1 hE1 hb1 hx1 hi1 hw1 ih1 h
      try dsimp only at h ⊢
      conv => arg 1; arg 7; unfold L50_0 loopAt S01.c50 Tryd.f50; simp only [loopIn, Option.getD_some, if_true]
      obtain ⟨v2, e_v2, h⟩ := ob h
      have e_v2c := ih a0 x1 v2 e_v2
      by_cases c4 : v2 = true
      ·have h := iteT h c4
       simp only [go_sem, hx1, hi1, hw1, e_v2c, c4, hR1, hE1]
       exact ih1 () h
      ·have h := iteF h c4
       have c4 := eq_false_of_ne_true c4
       simp only [go_sem, hx1, hi1, hw1, e_v2c, c4, hR1, hE1]
       injection h with h; subst h
       exact Sat.ok hQ
    ·have h := iteF h c3
     have c3b : ((a1.Kids.length : Int) != v1) = true := bneT c3
     simp only [go_sem, c1, c2, e_v1a, e_v1b, c3b]
     injection h with h; subst h
     exact Sat.ok hQ
def ref01_Valid (n : Nat) (a0 : Alphabet) (a1 : Tree) : Option Bool :=
 (ref01_ValidAlphabet a0).bind fun v1 =>
 if v1 = true then
  (ref01_Few n a1 300).bind fun v2 =>
  if v2 = true then
   (ref01_shaped n a0 a1).bind fun v3 =>
   some v3
  else
   some false
 else
  some false
theorem spec18 (n : Nat) (a0 : Alphabet) (a1 : Tree) (r : Bool) (h : ref01_Valid n a0 a1 = some r) :
 call Tryd.prog T H (.fn 18) [.p (.agg [.sl none 1 (List.map rowI a0.Ranks)]), .p (.agg [iv a1.Sym, .sl none 2 (List.map row_Tree a1.Kids)])] [] = some (.ret (.p (bv r)), []) := by
 refine Sat.fn fun Q hQ => ?_
 unfold ref01_Valid at h
 rw [call18]
 conv => arg 1; arg 7; unfold S01.c18 Tryd.f18; simp only [Option.getD_some]
 obtain ⟨v1, e_v1, h⟩ := ob h
 have e_v1c := spec16 a0 v1 e_v1
 by_cases c1 : v1 = true
 ·have h := iteT h c1
  obtain ⟨v2, e_v2, h⟩ := ob h
  have e_v2c := spec38 n a1 300 v2 e_v2
  by_cases c2 : v2 = true
  ·have h := iteT h c2
   obtain ⟨v3, e_v3, h⟩ := ob h
   have e_v3c := spec50 n a0 a1 v3 e_v3
   simp only [go_sem, e_v1c, c1, e_v2c, c2, e_v3c]
   injection h with h; subst h
   exact Sat.ok hQ
  ·have h := iteF h c2
   have c2 := eq_false_of_ne_true c2
   simp only [go_sem, e_v1c, c1, e_v2c, c2]
   injection h with h; subst h
   exact Sat.ok hQ
 ·have h := iteF h c1
  have c1 := eq_false_of_ne_true c1
  simp only [go_sem, e_v1c, c1]
  injection h with h; subst h
  exact Sat.ok hQ
def tree_Size : Nat → Tree → Option Int
 | 0, _ => none
 | n + 1, a0 =>
  rangeL a0.Kids 1 (fun k1 i1 x1 (s1 : Int) n1 =>
   (tree_Size n x1).bind fun v1 =>
   n1 (w64 (s1 + v1))) fun s1 =>
  some s1
theorem spec19 : ∀ (n : Nat), (∀ (a0 : Tree) (r : Int), tree_Size n a0 = some r →
 call Tryd.prog T H (.fn 19) [.p (.agg [iv a0.Sym, .sl none 2 (List.map row_Tree a0.Kids)])] [] = some (.ret (.p (iv r)), [])) := by
 intro n
 induction n with
 | zero => intro a0 r h; cases h
 | succ n ih =>
  intro a0 r h
  refine Sat.fn fun Q hQ => ?_
  rw [tree_Size] at h
  rw [call19]
  conv => arg 1; arg 7; unfold S01.c19 Tryd.f19; simp only [Option.getD_some]
  simp only [go_sem]
  refine run_rangeL (c := L19_0) (live := [3, 7, 8, 9]) (by simp only [go_sem]) (M := fun i1 (s1 : Int) => [(3, .p (iv s1)), (7, .p (.sl none 2 (List.map row_Tree a0.Kids))), (8, .p (iv (a0.Kids.length : Int))), (9, .p (iv (i1 : Int)))]) (Z := fun i1 (s1 : Int) => [.cells [.p (iv a0.Sym), .p (.sl none 2 (List.map row_Tree a0.Kids))]]) (N := fun (s1 : Int) => ⟨[(3, .p (iv s1))], [.cells [.p (iv a0.Sym), .p (.sl none 2 (List.map row_Tree a0.Kids))]], [], none, false⟩) h rfl rfl (fun _ _ => rfl) ?_ ?_ ?_
  ·intro s1 h
   try dsimp only at h ⊢
   simp only [go_sem]
   injection h with h; subst h
   exact Sat.ok hQ
  ·intro K1 s1 hb1 he1
   try dsimp only
   conv => arg 1; arg 7; unfold L19_0 loopAt S01.c19 Tryd.f19; simp only [loopIn, Option.getD_some, if_true]
   simp only [go_sem, he1]
   exact hb1
  ·intro K1 k1 i1 x1 s1 n1 hR1 hE1 hb1 hx1 hi1 hw1 ih1 h
   try dsimp only at h ⊢
   conv => arg 1; arg 7; unfold L19_0 loopAt S01.c19 Tryd.f19; simp only [loopIn, Option.getD_some, if_true]
   obtain ⟨v1, e_v1, h⟩ := ob h
   have e_v1c := ih x1 v1 e_v1
   simp only [go_sem, hx1, hi1, hw1, e_v1c, hR1, hE1]
   exact ih1 (w64 (s1 + v1)) h
def tree_letter (a0 : Int) : Option Bool :=
 if 97 ≤ a0 then
  if a0 ≤ 122 then
   some true
  else
   if 65 ≤ a0 then
    some (decide (a0 ≤ 90))
   else
    some false
 else
  if 65 ≤ a0 then
   some (decide (a0 ≤ 90))
  else
   some false
theorem spec52 (a0 : Int) (r : Bool) (h : tree_letter a0 = some r) :
 call Tryd.prog T H (.fn 52) [.p (.lit (.int .u8 a0))] [] = some (.ret (.p (bv r)), []) := by
 refine Sat.fn fun Q hQ => ?_
 unfold tree_letter at h
 rw [call52]
 conv => arg 1; arg 7; unfold S01.c52 Tryd.f52; simp only [Option.getD_some]
 by_cases c1 : 97 ≤ a0
 ·have h := iteT h c1
  by_cases c2 : a0 ≤ 122
  ·have h := iteT h c2
   simp only [go_sem, c1, c2]
   injection h with h; subst h
   exact Sat.ok hQ
  ·have h := iteF h c2
   by_cases c3 : 65 ≤ a0
   ·have h := iteT h c3
    simp only [go_sem, c1, c2, c3]
    injection h with h; subst h
    exact Sat.ok hQ
   ·have h := iteF h c3
    simp only [go_sem, c1, c2, c3]
    injection h with h; subst h
    exact Sat.ok hQ
 ·have h := iteF h c1
  by_cases c4 : 65 ≤ a0
  ·have h := iteT h c4
   simp only [go_sem, c1, c4]
   injection h with h; subst h
   exact Sat.ok hQ
  ·have h := iteF h c4
   simp only [go_sem, c1, c4]
   injection h with h; subst h
   exact Sat.ok hQ
def tree_digit (a0 : Int) : Option Bool :=
 if 48 ≤ a0 then
  some (decide (a0 ≤ 57))
 else
  some false
theorem spec53 (a0 : Int) (r : Bool) (h : tree_digit a0 = some r) :
 call Tryd.prog T H (.fn 53) [.p (.lit (.int .u8 a0))] [] = some (.ret (.p (bv r)), []) := by
 refine Sat.fn fun Q hQ => ?_
 unfold tree_digit at h
 rw [call53]
 conv => arg 1; arg 7; unfold S01.c53 Tryd.f53; simp only [Option.getD_some]
 by_cases c1 : 48 ≤ a0
 ·have h := iteT h c1
  simp only [go_sem, c1]
  injection h with h; subst h
  exact Sat.ok hQ
 ·have h := iteF h c1
  simp only [go_sem, c1]
  injection h with h; subst h
  exact Sat.ok hQ
def tree_Name (a0 : Str) : Option Bool :=
 if a0 = ([] : Str) then
  some false
 else
  if 12 < (a0.length : Int) then
   some false
  else
   (a0[0]?).bind fun v1 =>
   (tree_letter (v1.toNat : Int)).bind fun v2 =>
   if v2 = true then
    rangeI (a0.length : Int) () (fun k1 i1 (s1 : Unit) n1 =>
     (a0[i1]?).bind fun v3 =>
     (tree_letter (v3.toNat : Int)).bind fun v4 =>
     if v4 = true then
      n1 ()
     else
      (tree_digit (v3.toNat : Int)).bind fun v5 =>
      if v5 = true then
       n1 ()
      else
       some false) fun s1 =>
    some true
   else
    some false
theorem spec25 (a0 : Str) (r : Bool) (h : tree_Name a0 = some r) :
 call Tryd.prog T H (.fn 25) [.p (.lit (.string (bs a0)))] [] = some (.ret (.p (bv r)), []) := by
 refine Sat.fn fun Q hQ => ?_
 unfold tree_Name at h
 rw [call25]
 conv => arg 1; arg 7; unfold S01.c25 Tryd.f25; simp only [Option.getD_some]
 by_cases c1 : a0 = ([] : Str)
 ·have h := iteT h c1
  have c1b : (a0 == ([] : Str)) = true := beqT c1
  simp only [go_sem, c1b]
  injection h with h; subst h
  exact Sat.ok hQ
 ·have h := iteF h c1
  have c1b : (a0 == ([] : Str)) = false := beqF c1
  by_cases c2 : 12 < (a0.length : Int)
  ·have h := iteT h c2
   simp only [go_sem, c1b, c2]
   injection h with h; subst h
   exact Sat.ok hQ
  ·have h := iteF h c2
   obtain ⟨v1, e_v1, h⟩ := ob h
   obtain ⟨v2, e_v2, h⟩ := ob h
   have e_v2c : call Tryd.prog T H (.fn 52) [.p (.lit (.int .u8 (v1.toNat : Int)))] [] = some (.ret (.p (bv v2)), []) := spec52 (v1.toNat : Int) v2 e_v2
   by_cases c3 : v2 = true
   ·have h := iteT h c3
    simp only [go_sem, c1b, c2, e_v1, e_v2c, c3]
    refine run_rangeI (c := L25_0) (live := [0, 18, 19]) (by simp only [go_sem]) (M := fun i1 (s1 : Unit) => [(0, .p (.lit (.string (bs a0)))), (18, .p (iv (a0.length : Int))), (19, .p (iv (i1 : Int)))]) (Z := fun i1 (s1 : Unit) => []) (N := fun (s1 : Unit) => ⟨[], [], [], none, false⟩) h rfl rfl (fun _ _ => rfl) ?_ ?_ ?_
    ·intro s1 h
     try dsimp only at h ⊢
     simp only [go_sem]
     injection h with h; subst h
     exact Sat.ok hQ
    ·intro K1 i1 s1 hb1 he1
     try dsimp only
     conv => arg 1; arg 7; unfold L25_0 loopAt S01.c25 Tryd.f25; simp only [loopIn, Option.getD_some, if_true]
     simp only [go_sem, he1]
     exact hb1
    ·intro K1 k1 i1 s1 n1 hR1 hE1 hb1 hi1 hw1 ih1 h
     try dsimp only at h ⊢
     conv => arg 1; arg 7; unfold L25_0 loopAt S01.c25 Tryd.f25; simp only [loopIn, Option.getD_some, if_true]
     obtain ⟨v3, e_v3, h⟩ := ob h
     obtain ⟨v4, e_v4, h⟩ := ob h
     have e_v4c : call Tryd.prog T H (.fn 52) [.p (.lit (.int .u8 (v3.toNat : Int)))] [] = some (.ret (.p (bv v4)), []) := spec52 (v3.toNat : Int) v4 e_v4
     by_cases c4 : v4 = true
     ·have h := iteT h c4
      simp only [go_sem, hi1, hw1, e_v3, e_v4c, c4, hR1, hE1]
      exact ih1 () h
     ·have h := iteF h c4
      have c4 := eq_false_of_ne_true c4
      obtain ⟨v5, e_v5, h⟩ := ob h
      have e_v5c : call Tryd.prog T H (.fn 53) [.p (.lit (.int .u8 (v3.toNat : Int)))] [] = some (.ret (.p (bv v5)), []) := spec53 (v3.toNat : Int) v5 e_v5
      by_cases c5 : v5 = true
      ·have h := iteT h c5
       simp only [go_sem, hi1, hw1, e_v3, e_v4c, c4, e_v5c, c5, hR1, hE1]
       exact ih1 () h
      ·have h := iteF h c5
       have c5 := eq_false_of_ne_true c5
       simp only [go_sem, hi1, hw1, e_v3, e_v4c, c4, e_v5c, c5, hR1, hE1]
       injection h with h; subst h
       exact Sat.ok hQ
   ·have h := iteF h c3
    have c3 := eq_false_of_ne_true c3
    simp only [go_sem, c1b, c2, e_v1, e_v2c, c3]
    injection h with h; subst h
    exact Sat.ok hQ
def ref01_letter (a0 : Int) : Option Bool :=
 if 97 ≤ a0 then
  if a0 ≤ 122 then
   some true
  else
   if 65 ≤ a0 then
    some (decide (a0 ≤ 90))
   else
    some false
 else
  if 65 ≤ a0 then
   some (decide (a0 ≤ 90))
  else
   some false
theorem spec80 (a0 : Int) (r : Bool) (h : ref01_letter a0 = some r) :
 call Tryd.prog T H (.fn 80) [.p (.lit (.int .u8 a0))] [] = some (.ret (.p (bv r)), []) := by
 refine Sat.fn fun Q hQ => ?_
 unfold ref01_letter at h
 rw [call80]
 conv => arg 1; arg 7; unfold S01.c80 Tryd.f80; simp only [Option.getD_some]
 by_cases c1 : 97 ≤ a0
 ·have h := iteT h c1
  by_cases c2 : a0 ≤ 122
  ·have h := iteT h c2
   simp only [go_sem, c1, c2]
   injection h with h; subst h
   exact Sat.ok hQ
  ·have h := iteF h c2
   by_cases c3 : 65 ≤ a0
   ·have h := iteT h c3
    simp only [go_sem, c1, c2, c3]
    injection h with h; subst h
    exact Sat.ok hQ
   ·have h := iteF h c3
    simp only [go_sem, c1, c2, c3]
    injection h with h; subst h
    exact Sat.ok hQ
 ·have h := iteF h c1
  by_cases c4 : 65 ≤ a0
  ·have h := iteT h c4
   simp only [go_sem, c1, c4]
   injection h with h; subst h
   exact Sat.ok hQ
  ·have h := iteF h c4
   simp only [go_sem, c1, c4]
   injection h with h; subst h
   exact Sat.ok hQ
def ref01_digit (a0 : Int) : Option Bool :=
 if 48 ≤ a0 then
  some (decide (a0 ≤ 57))
 else
  some false
theorem spec81 (a0 : Int) (r : Bool) (h : ref01_digit a0 = some r) :
 call Tryd.prog T H (.fn 81) [.p (.lit (.int .u8 a0))] [] = some (.ret (.p (bv r)), []) := by
 refine Sat.fn fun Q hQ => ?_
 unfold ref01_digit at h
 rw [call81]
 conv => arg 1; arg 7; unfold S01.c81 Tryd.f81; simp only [Option.getD_some]
 by_cases c1 : 48 ≤ a0
 ·have h := iteT h c1
  simp only [go_sem, c1]
  injection h with h; subst h
  exact Sat.ok hQ
 ·have h := iteF h c1
  simp only [go_sem, c1]
  injection h with h; subst h
  exact Sat.ok hQ
def ref01_Word (n : Nat) (a0 : Str) : Option Int :=
 whileL n 0 (fun k1 (s1 : Int) n1 =>
  if s1 < (a0.length : Int) then
   (idx a0 s1).bind fun v1 =>
   (ref01_letter (v1.toNat : Int)).bind fun v2 =>
   if v2 = true then
    n1 (w64 (s1 + 1))
   else
    if 0 < s1 then
     (ref01_digit (v1.toNat : Int)).bind fun v3 =>
     if v3 = true then
      n1 (w64 (s1 + 1))
     else
      k1 s1
    else
     k1 s1
  else
   k1 s1) fun s1 =>
 some s1
theorem spec54 (n : Nat) (a0 : Str) (r : Int) (h : ref01_Word n a0 = some r) :
 call Tryd.prog T H (.fn 54) [.p (.lit (.string (bs a0)))] [] = some (.ret (.p (iv r)), []) := by
 refine Sat.fn fun Q hQ => ?_
 unfold ref01_Word at h
 rw [call54]
 conv => arg 1; arg 7; unfold S01.c54 Tryd.f54; simp only [Option.getD_some]
 simp only [go_sem]
 refine run_whileL (c := L54_0) (live := [0, 3]) (by simp only [go_sem]) (M := fun (s1 : Int) => [(0, .p (.lit (.string (bs a0)))), (3, .p (iv s1))]) (Z := fun (s1 : Int) => []) (N := fun (s1 : Int) => ⟨[(3, .p (iv s1))], [], [], none, false⟩) h rfl rfl (fun _ => rfl) ?_ ?_
 ·intro s1 h
  try dsimp only at h ⊢
  simp only [go_sem]
  injection h with h; subst h
  exact Sat.ok hQ
 ·intro K1 k1 s1 n1 hR1 hE1 hb1 ih1 h
  try dsimp only at h ⊢
  conv => arg 1; arg 7; unfold L54_0 loopAt S01.c54 Tryd.f54; simp only [loopIn, Option.getD_some, if_true]
  by_cases c1 : s1 < (a0.length : Int)
  ·have h := iteT h c1
   obtain ⟨v1, e_v1, h⟩ := ob h
   obtain ⟨e_v1a, e_v1b⟩ := idx_some e_v1
   obtain ⟨v2, e_v2, h⟩ := ob h
   have e_v2c : call Tryd.prog T H (.fn 80) [.p (.lit (.int .u8 (v1.toNat : Int)))] [] = some (.ret (.p (bv v2)), []) := spec80 (v1.toNat : Int) v2 e_v2
   by_cases c2 : v2 = true
   ·have h := iteT h c2
    simp only [go_sem, c1, e_v1a, e_v1b, e_v2c, c2, hR1, hE1]
    exact ih1 (w64 (s1 + 1)) h
   ·have h := iteF h c2
    have c2 := eq_false_of_ne_true c2
    by_cases c3 : 0 < s1
    ·have h := iteT h c3
     obtain ⟨v3, e_v3, h⟩ := ob h
     have e_v3c : call Tryd.prog T H (.fn 81) [.p (.lit (.int .u8 (v1.toNat : Int)))] [] = some (.ret (.p (bv v3)), []) := spec81 (v1.toNat : Int) v3 e_v3
     by_cases c4 : v3 = true
     ·have h := iteT h c4
      simp only [go_sem, c1, e_v1a, e_v1b, e_v2c, c2, c3, e_v3c, c4, hR1, hE1]
      exact ih1 (w64 (s1 + 1)) h
     ·have h := iteF h c4
      have c4 := eq_false_of_ne_true c4
      simp only [go_sem, c1, e_v1a, e_v1b, e_v2c, c2, c3, e_v3c, c4, hR1, hE1]
      exact hb1 s1 h
    ·have h := iteF h c3
     simp only [go_sem, c1, e_v1a, e_v1b, e_v2c, c2, c3, hR1, hE1]
     exact hb1 s1 h
  ·have h := iteF h c1
   simp only [go_sem, c1, hR1, hE1]
   exact hb1 s1 h
def ref01_Name (n : Nat) (a0 : Str) : Option Bool :=
 if a0 = ([] : Str) then
  some false
 else
  if (a0.length : Int) ≤ 12 then
   (ref01_Word n a0).bind fun v1 =>
   some (v1 == (a0.length : Int))
  else
   some false
theorem spec26 (n : Nat) (a0 : Str) (r : Bool) (h : ref01_Name n a0 = some r) :
 call Tryd.prog T H (.fn 26) [.p (.lit (.string (bs a0)))] [] = some (.ret (.p (bv r)), []) := by
 refine Sat.fn fun Q hQ => ?_
 unfold ref01_Name at h
 rw [call26]
 conv => arg 1; arg 7; unfold S01.c26 Tryd.f26; simp only [Option.getD_some]
 by_cases c1 : a0 = ([] : Str)
 ·have h := iteT h c1
  have c1b : (a0 == ([] : Str)) = true := beqT c1
  simp only [go_sem, c1b]
  injection h with h; subst h
  exact Sat.ok hQ
 ·have h := iteF h c1
  have c1b : (a0 == ([] : Str)) = false := beqF c1
  by_cases c2 : (a0.length : Int) ≤ 12
  ·have h := iteT h c2
   obtain ⟨v1, e_v1, h⟩ := ob h
   have e_v1c := spec54 n a0 v1 e_v1
   simp only [go_sem, c1b, c2, e_v1c]
   injection h with h; subst h
   exact Sat.ok hQ
  ·have h := iteF h c2
   simp only [go_sem, c1b, c2]
   injection h with h; subst h
   exact Sat.ok hQ
def slices_Index_Lstring_string (a0 : List Str) (a1 : Str) : Option Int :=
 rangeL a0 () (fun k1 i1 x1 (s1 : Unit) n1 =>
  if a1 = x1 then
   some (i1 : Int)
  else
   n1 ()) fun s1 =>
 some (-1)
theorem spec92 (a0 : List Str) (a1 : Str) (r : Int) (h : slices_Index_Lstring_string a0 a1 = some r) :
 call Tryd.prog T H (.fn 92) [.p (.sl none 1 (List.map rowS a0)), .p (.lit (.string (bs a1)))] [] = some (.ret (.p (iv r)), []) := by
 refine Sat.fn fun Q hQ => ?_
 unfold slices_Index_Lstring_string at h
 rw [call92]
 conv => arg 1; arg 7; unfold S01.c92 Tryd.f92; simp only [Option.getD_some]
 simp only [go_sem]
 refine run_rangeL (c := L92_0) (live := [0, 1, 7, 8]) (by simp only [go_sem]) (M := fun i1 (s1 : Unit) => [(0, .p (.sl none 1 (List.map rowS a0))), (1, .p (.lit (.string (bs a1)))), (7, .p (iv (a0.length : Int))), (8, .p (iv (i1 : Int)))]) (Z := fun i1 (s1 : Unit) => []) (N := fun (s1 : Unit) => ⟨[], [], [], none, false⟩) h rfl rfl (fun _ _ => rfl) ?_ ?_ ?_
 ·intro s1 h
  try dsimp only at h ⊢
  simp only [go_sem]
  injection h with h; subst h
  exact Sat.ok hQ
 ·intro K1 s1 hb1 he1
  try dsimp only
  conv => arg 1; arg 7; unfold L92_0 loopAt S01.c92 Tryd.f92; simp only [loopIn, Option.getD_some, if_true]
  simp only [go_sem, he1]
  exact hb1
 ·intro K1 k1 i1 x1 s1 n1 hR1 hE1 hb1 hx1 hi1 hw1 ih1 h
  try dsimp only at h ⊢
  conv => arg 1; arg 7; unfold L92_0 loopAt S01.c92 Tryd.f92; simp only [loopIn, Option.getD_some, if_true]
  by_cases c1 : a1 = x1
  ·have h := iteT h c1
   have c1b : (a1 == x1) = true := beqT c1
   simp only [go_sem, hx1, hi1, hw1, c1b, hR1, hE1]
   injection h with h; subst h
   exact Sat.ok hQ
  ·have h := iteF h c1
   have c1b : (a1 == x1) = false := beqF c1
   simp only [go_sem, hx1, hi1, hw1, c1b, hR1, hE1]
   exact ih1 () h
def slices_Contains_Lstring_string (a0 : List Str) (a1 : Str) : Option Bool :=
 (slices_Index_Lstring_string a0 a1).bind fun v1 =>
 some (decide (0 ≤ v1))
theorem spec84 (a0 : List Str) (a1 : Str) (r : Bool) (h : slices_Contains_Lstring_string a0 a1 = some r) :
 call Tryd.prog T H (.fn 84) [.p (.sl none 1 (List.map rowS a0)), .p (.lit (.string (bs a1)))] [] = some (.ret (.p (bv r)), []) := by
 refine Sat.fn fun Q hQ => ?_
 unfold slices_Contains_Lstring_string at h
 rw [call84]
 conv => arg 1; arg 7; unfold S01.c84 Tryd.f84; simp only [Option.getD_some]
 obtain ⟨v1, e_v1, h⟩ := ob h
 have e_v1c := spec92 a0 a1 v1 e_v1
 simp only [go_sem, e_v1c]
 injection h with h; subst h
 exact Sat.ok hQ
def tree_Names (a0 : List Str) (a1 : Int) : Option Bool :=
 if (a0.length : Int) = a1 then
  rangeL a0 () (fun k1 i1 x1 (s1 : Unit) n1 =>
   (tree_Name x1).bind fun v1 =>
   if v1 = true then
    (slcT a0 (i1 : Int)).bind fun v2 =>
    (slices_Contains_Lstring_string v2 x1).bind fun v3 =>
    if v3 = true then
     some false
    else
     n1 ()
   else
    some false) fun s1 =>
  some true
 else
  some false
theorem spec64 (a0 : List Str) (a1 : Int) (r : Bool) (h : tree_Names a0 a1 = some r) :
 call Tryd.prog T H (.fn 64) [.p (.sl none 1 (List.map rowS a0)), .p (iv a1)] [] = some (.ret (.p (bv r)), []) := by
 refine Sat.fn fun Q hQ => ?_
 unfold tree_Names at h
 rw [call64]
 conv => arg 1; arg 7; unfold S01.c64 Tryd.f64; simp only [Option.getD_some]
 by_cases c1 : (a0.length : Int) = a1
 ·have h := iteT h c1
  have c1b : ((a0.length : Int) != a1) = false := bneF c1
  simp only [go_sem, c1b]
  refine run_rangeL (c := L64_0) (live := [0, 11, 12, 13]) (by simp only [go_sem]) (M := fun i1 (s1 : Unit) => [(0, .p (.sl none 1 (List.map rowS a0))), (11, .p (.sl none 1 (List.map rowS a0))), (12, .p (iv (a0.length : Int))), (13, .p (iv (i1 : Int)))]) (Z := fun i1 (s1 : Unit) => []) (N := fun (s1 : Unit) => ⟨[], [], [], none, false⟩) h rfl rfl (fun _ _ => rfl) ?_ ?_ ?_
  ·intro s1 h
   try dsimp only at h ⊢
   simp only [go_sem]
   injection h with h; subst h
   exact Sat.ok hQ
  ·intro K1 s1 hb1 he1
   try dsimp only
   conv => arg 1; arg 7; unfold L64_0 loopAt S01.c64 Tryd.f64; simp only [loopIn, Option.getD_some, if_true]
   simp only [go_sem, he1]
   exact hb1
  ·intro K1 k1 i1 x1 s1 n1 hR1 hE1 hb1 hx1 hi1 hw1 ih1 h
   try dsimp only at h ⊢
   conv => arg 1; arg 7; unfold L64_0 loopAt S01.c64 Tryd.f64; simp only [loopIn, Option.getD_some, if_true]
   obtain ⟨v1, e_v1, h⟩ := ob h
   have e_v1c := spec25 x1 v1 e_v1
   by_cases c2 : v1 = true
   ·have h := iteT h c2
    obtain ⟨v2, e_v2, h⟩ := ob h
    obtain ⟨e_v21, e_v22, e_v23, e_v24⟩ := slcT_some e_v2
    try simp only [Int.toNat_natCast] at e_v21
    try simp only [Int.toNat_natCast] at e_v23
    try simp only [Int.toNat_natCast] at e_v24
    obtain ⟨v3, e_v3, h⟩ := ob h
    have e_v3c := spec84 v2 x1 v3 e_v3
    by_cases c3 : v3 = true
    ·have h := iteT h c3
     simp only [go_sem, hx1, hi1, hw1, e_v1c, c2, e_v21, e_v23, ← e_v24, e_v3c, c3, hR1, hE1]
     injection h with h; subst h
     exact Sat.ok hQ
    ·have h := iteF h c3
     have c3 := eq_false_of_ne_true c3
     simp only [go_sem, hx1, hi1, hw1, e_v1c, c2, e_v21, e_v23, ← e_v24, e_v3c, c3, hR1, hE1]
     exact ih1 () h
   ·have h := iteF h c2
    have c2 := eq_false_of_ne_true c2
    simp only [go_sem, hx1, hi1, hw1, e_v1c, c2, hR1, hE1]
    injection h with h; subst h
    exact Sat.ok hQ
 ·have h := iteF h c1
  have c1b : ((a0.length : Int) != a1) = true := bneT c1
  simp only [go_sem, c1b]
  injection h with h; subst h
  exact Sat.ok hQ
def tree_write : Nat → (List Int) → (List Str) → Tree → Option (List Int)
 | 0, _, _, _ => none
 | n + 1, a0, a1, a2 =>
  (idx a1 a2.Sym).bind fun v1 =>
  (app 1 a0 (ofStr v1)).bind fun v2 =>
  rangeL a2.Kids v2 (fun k1 i1 x1 (s1 : (List Int)) n1 =>
   if (i1 : Int) = 0 then
    (app 1 s1 [40]).bind fun v4 =>
    (tree_write n v4 a1 x1).bind fun v5 =>
    n1 v5
   else
    (app 1 s1 (ofStr ([44, 32] : Str))).bind fun v6 =>
    (tree_write n v6 a1 x1).bind fun v7 =>
    n1 v7) fun s1 =>
  if 0 < (a2.Kids.length : Int) then
   (app 1 s1 [41]).bind fun v3 =>
   some v3
  else
   some s1
theorem spec65 : ∀ (n : Nat), (∀ (a0 : List Int) (a1 : List Str) (a2 : Tree) (r : List Int), tree_write n a0 a1 a2 = some r →
 call Tryd.prog T H (.fn 65) [.own 1 (List.map rowU8 a0), .p (.sl none 1 (List.map rowS a1)), .p (.agg [iv a2.Sym, .sl none 2 (List.map row_Tree a2.Kids)])] [] = some (.ret (.own 1 (List.map rowU8 r)), [])) := by
 intro n
 induction n with
 | zero => intro a0 a1 a2 r h; cases h
 | succ n ih =>
  intro a0 a1 a2 r h
  refine Sat.fn fun Q hQ => ?_
  rw [tree_write] at h
  rw [call65]
  conv => arg 1; arg 7; unfold S01.c65 Tryd.f65; simp only [Option.getD_some]
  obtain ⟨v1, e_v1, h⟩ := ob h
  obtain ⟨e_v1a, e_v1b⟩ := idx_some e_v1
  obtain ⟨v2, e_v2, h⟩ := ob h
  have e_v2a : boundOk (a0.length + (ofStr v1).length) 1 = true := bnd_of (by have := (app_some e_v2).1; simpa using this) (by decide)
  have e_v2b : (List.map rowU8 a0) ++ (List.map rowU8 (ofStr v1)) = List.map rowU8 v2 := by rw [(app_some e_v2).2]; simp [rowU8]
  have e_v2b : List.map rowU8 (a0 ++ (ofStr v1)) = List.map rowU8 v2 := by rw [(app_some e_v2).2]
  simp only [go_sem, e_v1a, e_v1b, e_v2a, e_v2b]
  refine run_rangeL (c := L65_0) (live := [0, 1, 5, 17, 18, 19]) (by simp only [go_sem]) (M := fun i1 (s1 : (List Int)) => [(0, .own 1 (List.map rowU8 s1)), (1, .p (.sl none 1 (List.map rowS a1))), (5, .ptr 0 0), (17, .p (.sl none 2 (List.map row_Tree a2.Kids))), (18, .p (iv (a2.Kids.length : Int))), (19, .p (iv (i1 : Int)))]) (Z := fun i1 (s1 : (List Int)) => [.cells [.p (iv a2.Sym), .p (.sl none 2 (List.map row_Tree a2.Kids))]]) (N := fun (s1 : (List Int)) => ⟨[(0, .own 1 (List.map rowU8 s1)), (5, .ptr 0 0)], [.cells [.p (iv a2.Sym), .p (.sl none 2 (List.map row_Tree a2.Kids))]], [], none, false⟩) h rfl rfl (fun _ _ => rfl) ?_ ?_ ?_
  ·intro s1 h
   try dsimp only at h ⊢
   by_cases c1 : 0 < (a2.Kids.length : Int)
   ·have h := iteT h c1
    obtain ⟨v3, e_v3, h⟩ := ob h
    have e_v3a : boundOk (s1.length + 1) 1 = true := bnd_of (by have := (app_some e_v3).1; simpa using this) (by decide)
    have e_v3b : (List.map rowU8 s1) ++ [[.lit (.int .u8 41)]] = List.map rowU8 v3 := by rw [(app_some e_v3).2]; simp [rowU8]
    simp only [go_sem, c1, e_v3a, e_v3b]
    injection h with h; subst h
    exact Sat.ok hQ
   ·have h := iteF h c1
    simp only [go_sem, c1]
    injection h with h; subst h
    exact Sat.ok hQ
  ·intro K1 s1 hb1 he1
   try dsimp only
   conv => arg 1; arg 7; unfold L65_0 loopAt S01.c65 Tryd.f65; simp only [loopIn, Option.getD_some, if_true]
   simp only [go_sem, he1]
   exact hb1
  ·intro K1 k1 i1 x1 s1 n1 hR1 hE1 hb1 hx1 hi1 hw1 ih1 h
   try dsimp only at h ⊢
   conv => arg 1; arg 7; unfold L65_0 loopAt S01.c65 Tryd.f65; simp only [loopIn, Option.getD_some, if_true]
   by_cases c2 : (i1 : Int) = 0
   ·have h := iteT h c2
    have c2b : ((i1 : Int) == 0) = true := beqT c2
    obtain ⟨v4, e_v4, h⟩ := ob h
    have e_v4a : boundOk (s1.length + 1) 1 = true := bnd_of (by have := (app_some e_v4).1; simpa using this) (by decide)
    have e_v4b : (List.map rowU8 s1) ++ [[.lit (.int .u8 40)]] = List.map rowU8 v4 := by rw [(app_some e_v4).2]; simp [rowU8]
    obtain ⟨v5, e_v5, h⟩ := ob h
    have e_v5c := ih v4 a1 x1 v5 e_v5
    simp only [go_sem, hx1, hi1, hw1, c2b, e_v4a, e_v4b, e_v5c, hR1, hE1]
    exact ih1 v5 h
   ·have h := iteF h c2
    have c2b : ((i1 : Int) == 0) = false := beqF c2
    obtain ⟨v6, e_v6, h⟩ := ob h
    have e_v6a : boundOk (s1.length + (ofStr ([44, 32] : Str)).length) 1 = true := bnd_of (by have := (app_some e_v6).1; simpa using this) (by decide)
    have e_v6b : (List.map rowU8 s1) ++ (List.map rowU8 (ofStr ([44, 32] : Str))) = List.map rowU8 v6 := by rw [(app_some e_v6).2]; simp [rowU8]
    have e_v6b : List.map rowU8 (s1 ++ (ofStr ([44, 32] : Str))) = List.map rowU8 v6 := by rw [(app_some e_v6).2]
    obtain ⟨v7, e_v7, h⟩ := ob h
    have e_v7c := ih v6 a1 x1 v7 e_v7
    simp only [go_sem, hx1, hi1, hw1, c2b, e_v6a, e_v6b, e_v7c, hR1, hE1]
    exact ih1 v7 h
def tree_Print (n : Nat) (a0 : Alphabet) (a1 : List Str) (a2 : Tree) : Option (Str × Int) :=
 (tree_Valid n a0 a2).bind fun v1 =>
 if v1 = true then
  (tree_Names a1 (a0.Ranks.length : Int)).bind fun v2 =>
  if v2 = true then
   (tree_write n ([] : List Int) a1 a2).bind fun v3 =>
   some (strB v3, 0)
  else
   some (([] : Str), 4)
 else
  some (([] : Str), 1)
theorem spec34 (n : Nat) (a0 : Alphabet) (a1 : List Str) (a2 : Tree) (r : Str × Int) (h : tree_Print n a0 a1 a2 = some r) :
 call Tryd.prog T H (.fn 34) [.p (.agg [.sl none 1 (List.map rowI a0.Ranks)]), .p (.sl none 1 (List.map rowS a1)), .p (.agg [iv a2.Sym, .sl none 2 (List.map row_Tree a2.Kids)])] [] = some (.ret (.p (.tup [.lit (.string (bs r.1)), iv r.2])), []) := by
 refine Sat.fn fun Q hQ => ?_
 unfold tree_Print at h
 rw [call34]
 conv => arg 1; arg 7; unfold S01.c34 Tryd.f34; simp only [Option.getD_some]
 obtain ⟨v1, e_v1, h⟩ := ob h
 have e_v1c := spec17 n a0 a2 v1 e_v1
 by_cases c1 : v1 = true
 ·have h := iteT h c1
  obtain ⟨v2, e_v2, h⟩ := ob h
  have e_v2c : call Tryd.prog T H (.fn 64) [.p (.sl none 1 (List.map rowS a1)), .p (iv (a0.Ranks.length : Int))] [] = some (.ret (.p (bv v2)), []) := spec64 a1 (a0.Ranks.length : Int) v2 e_v2
  by_cases c2 : v2 = true
  ·have h := iteT h c2
   obtain ⟨v3, e_v3, h⟩ := ob h
   have e_v3c : call Tryd.prog T H (.fn 65) [.own 1 [], .p (.sl none 1 (List.map rowS a1)), .p (.agg [iv a2.Sym, .sl none 2 (List.map row_Tree a2.Kids)])] [] = some (.ret (.own 1 (List.map rowU8 v3)), []) := spec65 n ([] : List Int) a1 a2 v3 e_v3
   simp only [go_sem, e_v1c, c1, e_v2c, c2, e_v3c, bytesR_map, strOf_bs]
   injection h with h; subst h
   exact Sat.ok hQ
  ·have h := iteF h c2
   have c2 := eq_false_of_ne_true c2
   simp only [go_sem, e_v1c, c1, e_v2c, c2]
   injection h with h; subst h
   exact Sat.ok hQ
 ·have h := iteF h c1
  have c1 := eq_false_of_ne_true c1
  simp only [go_sem, e_v1c, c1]
  injection h with h; subst h
  exact Sat.ok hQ
def ref01_Place (a0 : List Str) (a1 : Str) : Option Int :=
 rangeL a0 () (fun k1 i1 x1 (s1 : Unit) n1 =>
  if x1 = a1 then
   some (i1 : Int)
  else
   n1 ()) fun s1 =>
 some (-1)
theorem spec85 (a0 : List Str) (a1 : Str) (r : Int) (h : ref01_Place a0 a1 = some r) :
 call Tryd.prog T H (.fn 85) [.p (.sl none 1 (List.map rowS a0)), .p (.lit (.string (bs a1)))] [] = some (.ret (.p (iv r)), []) := by
 refine Sat.fn fun Q hQ => ?_
 unfold ref01_Place at h
 rw [call85]
 conv => arg 1; arg 7; unfold S01.c85 Tryd.f85; simp only [Option.getD_some]
 simp only [go_sem]
 refine run_rangeL (c := L85_0) (live := [1, 7, 8, 9]) (by simp only [go_sem]) (M := fun i1 (s1 : Unit) => [(1, .p (.lit (.string (bs a1)))), (7, .p (.sl none 1 (List.map rowS a0))), (8, .p (iv (a0.length : Int))), (9, .p (iv (i1 : Int)))]) (Z := fun i1 (s1 : Unit) => []) (N := fun (s1 : Unit) => ⟨[], [], [], none, false⟩) h rfl rfl (fun _ _ => rfl) ?_ ?_ ?_
 ·intro s1 h
  try dsimp only at h ⊢
  simp only [go_sem]
  injection h with h; subst h
  exact Sat.ok hQ
 ·intro K1 s1 hb1 he1
  try dsimp only
  conv => arg 1; arg 7; unfold L85_0 loopAt S01.c85 Tryd.f85; simp only [loopIn, Option.getD_some, if_true]
  simp only [go_sem, he1]
  exact hb1
 ·intro K1 k1 i1 x1 s1 n1 hR1 hE1 hb1 hx1 hi1 hw1 ih1 h
  try dsimp only at h ⊢
  conv => arg 1; arg 7; unfold L85_0 loopAt S01.c85 Tryd.f85; simp only [loopIn, Option.getD_some, if_true]
  by_cases c1 : x1 = a1
  ·have h := iteT h c1
   have c1b : (x1 == a1) = true := beqT c1
   simp only [go_sem, hx1, hi1, hw1, c1b, hR1, hE1]
   injection h with h; subst h
   exact Sat.ok hQ
  ·have h := iteF h c1
   have c1b : (x1 == a1) = false := beqF c1
   simp only [go_sem, hx1, hi1, hw1, c1b, hR1, hE1]
   exact ih1 () h
def ref01_Names (n : Nat) (a0 : List Str) (a1 : Int) : Option Bool :=
 if (a0.length : Int) = a1 then
  rangeL a0 () (fun k1 i1 x1 (s1 : Unit) n1 =>
   (ref01_Name n x1).bind fun v1 =>
   if v1 = true then
    (slcT a0 (i1 : Int)).bind fun v2 =>
    (ref01_Place v2 x1).bind fun v3 =>
    if 0 ≤ v3 then
     some false
    else
     n1 ()
   else
    some false) fun s1 =>
  some true
 else
  some false
theorem spec66 (n : Nat) (a0 : List Str) (a1 : Int) (r : Bool) (h : ref01_Names n a0 a1 = some r) :
 call Tryd.prog T H (.fn 66) [.p (.sl none 1 (List.map rowS a0)), .p (iv a1)] [] = some (.ret (.p (bv r)), []) := by
 refine Sat.fn fun Q hQ => ?_
 unfold ref01_Names at h
 rw [call66]
 conv => arg 1; arg 7; unfold S01.c66 Tryd.f66; simp only [Option.getD_some]
 by_cases c1 : (a0.length : Int) = a1
 ·have h := iteT h c1
  have c1b : ((a0.length : Int) != a1) = false := bneF c1
  simp only [go_sem, c1b]
  refine run_rangeL (c := L66_0) (live := [0, 11, 12, 13]) (by simp only [go_sem]) (M := fun i1 (s1 : Unit) => [(0, .p (.sl none 1 (List.map rowS a0))), (11, .p (.sl none 1 (List.map rowS a0))), (12, .p (iv (a0.length : Int))), (13, .p (iv (i1 : Int)))]) (Z := fun i1 (s1 : Unit) => []) (N := fun (s1 : Unit) => ⟨[], [], [], none, false⟩) h rfl rfl (fun _ _ => rfl) ?_ ?_ ?_
  ·intro s1 h
   try dsimp only at h ⊢
   simp only [go_sem]
   injection h with h; subst h
   exact Sat.ok hQ
  ·intro K1 s1 hb1 he1
   try dsimp only
   conv => arg 1; arg 7; unfold L66_0 loopAt S01.c66 Tryd.f66; simp only [loopIn, Option.getD_some, if_true]
   simp only [go_sem, he1]
   exact hb1
  ·intro K1 k1 i1 x1 s1 n1 hR1 hE1 hb1 hx1 hi1 hw1 ih1 h
   try dsimp only at h ⊢
   conv => arg 1; arg 7; unfold L66_0 loopAt S01.c66 Tryd.f66; simp only [loopIn, Option.getD_some, if_true]
   obtain ⟨v1, e_v1, h⟩ := ob h
   have e_v1c := spec26 n x1 v1 e_v1
   by_cases c2 : v1 = true
   ·have h := iteT h c2
    obtain ⟨v2, e_v2, h⟩ := ob h
    obtain ⟨e_v21, e_v22, e_v23, e_v24⟩ := slcT_some e_v2
    try simp only [Int.toNat_natCast] at e_v21
    try simp only [Int.toNat_natCast] at e_v23
    try simp only [Int.toNat_natCast] at e_v24
    obtain ⟨v3, e_v3, h⟩ := ob h
    have e_v3c := spec85 v2 x1 v3 e_v3
    by_cases c3 : 0 ≤ v3
    ·have h := iteT h c3
     simp only [go_sem, hx1, hi1, hw1, e_v1c, c2, e_v21, e_v23, ← e_v24, e_v3c, c3, hR1, hE1]
     injection h with h; subst h
     exact Sat.ok hQ
    ·have h := iteF h c3
     simp only [go_sem, hx1, hi1, hw1, e_v1c, c2, e_v21, e_v23, ← e_v24, e_v3c, c3, hR1, hE1]
     exact ih1 () h
   ·have h := iteF h c2
    have c2 := eq_false_of_ne_true c2
    simp only [go_sem, hx1, hi1, hw1, e_v1c, c2, hR1, hE1]
    injection h with h; subst h
    exact Sat.ok hQ
 ·have h := iteF h c1
  have c1b : ((a0.length : Int) != a1) = true := bneT c1
  simp only [go_sem, c1b]
  injection h with h; subst h
  exact Sat.ok hQ
def ref01_Write : Nat → (List Str) → Tree → Option Str
 | 0, _, _ => none
 | n + 1, a0, a1 =>
  (idx a0 a1.Sym).bind fun v1 =>
  rangeL a1.Kids v1 (fun k1 i1 x1 (s1 : Str) n1 =>
   if (i1 : Int) = 0 then
    (cat s1 ([40] : Str)).bind fun v3 =>
    (ref01_Write n a0 x1).bind fun v4 =>
    (cat v3 v4).bind fun v5 =>
    n1 v5
   else
    (cat s1 ([44, 32] : Str)).bind fun v6 =>
    (ref01_Write n a0 x1).bind fun v7 =>
    (cat v6 v7).bind fun v8 =>
    n1 v8) fun s1 =>
  if 0 < (a1.Kids.length : Int) then
   (cat s1 ([41] : Str)).bind fun v2 =>
   some v2
  else
   some s1
theorem spec67 : ∀ (n : Nat), (∀ (a0 : List Str) (a1 : Tree) (r : Str), ref01_Write n a0 a1 = some r →
 call Tryd.prog T H (.fn 67) [.p (.sl none 1 (List.map rowS a0)), .p (.agg [iv a1.Sym, .sl none 2 (List.map row_Tree a1.Kids)])] [] = some (.ret (.p (.lit (.string (bs r)))), [])) := by
 intro n
 induction n with
 | zero => intro a0 a1 r h; cases h
 | succ n ih =>
  intro a0 a1 r h
  refine Sat.fn fun Q hQ => ?_
  rw [ref01_Write] at h
  rw [call67]
  conv => arg 1; arg 7; unfold S01.c67 Tryd.f67; simp only [Option.getD_some]
  obtain ⟨v1, e_v1, h⟩ := ob h
  obtain ⟨e_v1a, e_v1b⟩ := idx_some e_v1
  simp only [go_sem, e_v1a, e_v1b]
  refine run_rangeL (c := L67_0) (live := [0, 3, 5, 14, 15, 16]) (by simp only [go_sem]) (M := fun i1 (s1 : Str) => [(0, .p (.sl none 1 (List.map rowS a0))), (3, .ptr 0 0), (5, .p (.lit (.string (bs s1)))), (14, .p (.sl none 2 (List.map row_Tree a1.Kids))), (15, .p (iv (a1.Kids.length : Int))), (16, .p (iv (i1 : Int)))]) (Z := fun i1 (s1 : Str) => [.cells [.p (iv a1.Sym), .p (.sl none 2 (List.map row_Tree a1.Kids))]]) (N := fun (s1 : Str) => ⟨[(3, .ptr 0 0), (5, .p (.lit (.string (bs s1))))], [.cells [.p (iv a1.Sym), .p (.sl none 2 (List.map row_Tree a1.Kids))]], [], none, false⟩) h rfl rfl (fun _ _ => rfl) ?_ ?_ ?_
  ·intro s1 h
   try dsimp only at h ⊢
   by_cases c1 : 0 < (a1.Kids.length : Int)
   ·have h := iteT h c1
    obtain ⟨v2, e_v2, h⟩ := ob h
    have e_v2a := (cat_some e_v2).1
    have e_v2b := (cat_some e_v2).2
    simp only [go_sem] at e_v2a
    try simp only [go_sem] at e_v2b
    simp only [go_sem, c1, e_v2a, e_v2b]
    injection h with h; subst h
    exact Sat.ok hQ
   ·have h := iteF h c1
    simp only [go_sem, c1]
    injection h with h; subst h
    exact Sat.ok hQ
  ·intro K1 s1 hb1 he1
   try dsimp only
   conv => arg 1; arg 7; unfold L67_0 loopAt S01.c67 Tryd.f67; simp only [loopIn, Option.getD_some, if_true]
   simp only [go_sem, he1]
   exact hb1
  ·intro K1 k1 i1 x1 s1 n1 hR1 hE1 hb1 hx1 hi1 hw1 ih1 h
   try dsimp only at h ⊢
   conv => arg 1; arg 7; unfold L67_0 loopAt S01.c67 Tryd.f67; simp only [loopIn, Option.getD_some, if_true]
   by_cases c2 : (i1 : Int) = 0
   ·have h := iteT h c2
    have c2b : ((i1 : Int) == 0) = true := beqT c2
    obtain ⟨v3, e_v3, h⟩ := ob h
    have e_v3a := (cat_some e_v3).1
    have e_v3b := (cat_some e_v3).2
    simp only [go_sem] at e_v3a
    try simp only [go_sem] at e_v3b
    obtain ⟨v4, e_v4, h⟩ := ob h
    have e_v4c := ih a0 x1 v4 e_v4
    obtain ⟨v5, e_v5, h⟩ := ob h
    have e_v5a := (cat_some e_v5).1
    have e_v5b := (cat_some e_v5).2
    simp only [go_sem] at e_v5a
    try simp only [go_sem] at e_v5b
    simp only [go_sem, hx1, hi1, hw1, c2b, e_v3a, e_v3b, e_v4c, e_v5a, e_v5b, hR1, hE1]
    exact ih1 v5 h
   ·have h := iteF h c2
    have c2b : ((i1 : Int) == 0) = false := beqF c2
    obtain ⟨v6, e_v6, h⟩ := ob h
    have e_v6a := (cat_some e_v6).1
    have e_v6b := (cat_some e_v6).2
    simp only [go_sem] at e_v6a
    try simp only [go_sem] at e_v6b
    obtain ⟨v7, e_v7, h⟩ := ob h
    have e_v7c := ih a0 x1 v7 e_v7
    obtain ⟨v8, e_v8, h⟩ := ob h
    have e_v8a := (cat_some e_v8).1
    have e_v8b := (cat_some e_v8).2
    simp only [go_sem] at e_v8a
    try simp only [go_sem] at e_v8b
    simp only [go_sem, hx1, hi1, hw1, c2b, e_v6a, e_v6b, e_v7c, e_v8a, e_v8b, hR1, hE1]
    exact ih1 v8 h
def ref01_Print (n : Nat) (a0 : Alphabet) (a1 : List Str) (a2 : Tree) : Option (Str × Int) :=
 (ref01_Valid n a0 a2).bind fun v1 =>
 if v1 = true then
  (ref01_Names n a1 (a0.Ranks.length : Int)).bind fun v2 =>
  if v2 = true then
   (ref01_Write n a1 a2).bind fun v3 =>
   some (v3, 0)
  else
   some (([] : Str), 4)
 else
  some (([] : Str), 1)
theorem spec35 (n : Nat) (a0 : Alphabet) (a1 : List Str) (a2 : Tree) (r : Str × Int) (h : ref01_Print n a0 a1 a2 = some r) :
 call Tryd.prog T H (.fn 35) [.p (.agg [.sl none 1 (List.map rowI a0.Ranks)]), .p (.sl none 1 (List.map rowS a1)), .p (.agg [iv a2.Sym, .sl none 2 (List.map row_Tree a2.Kids)])] [] = some (.ret (.p (.tup [.lit (.string (bs r.1)), iv r.2])), []) := by
 refine Sat.fn fun Q hQ => ?_
 unfold ref01_Print at h
 rw [call35]
 conv => arg 1; arg 7; unfold S01.c35 Tryd.f35; simp only [Option.getD_some]
 obtain ⟨v1, e_v1, h⟩ := ob h
 have e_v1c := spec18 n a0 a2 v1 e_v1
 by_cases c1 : v1 = true
 ·have h := iteT h c1
  obtain ⟨v2, e_v2, h⟩ := ob h
  have e_v2c : call Tryd.prog T H (.fn 66) [.p (.sl none 1 (List.map rowS a1)), .p (iv (a0.Ranks.length : Int))] [] = some (.ret (.p (bv v2)), []) := spec66 n a1 (a0.Ranks.length : Int) v2 e_v2
  by_cases c2 : v2 = true
  ·have h := iteT h c2
   obtain ⟨v3, e_v3, h⟩ := ob h
   have e_v3c := spec67 n a1 a2 v3 e_v3
   simp only [go_sem, e_v1c, c1, e_v2c, c2, e_v3c]
   injection h with h; subst h
   exact Sat.ok hQ
  ·have h := iteF h c2
   have c2 := eq_false_of_ne_true c2
   simp only [go_sem, e_v1c, c1, e_v2c, c2]
   injection h with h; subst h
   exact Sat.ok hQ
 ·have h := iteF h c1
  have c1 := eq_false_of_ne_true c1
  simp only [go_sem, e_v1c, c1]
  injection h with h; subst h
  exact Sat.ok hQ
def tree_Known (a0 : List Str) (a1 : Str) : Option (Option Int) :=
 (slices_Index_Lstring_string a0 a1).bind fun v1 =>
 if v1 < 0 then
  some none
 else
  some (some v1)
theorem spec93 (a0 : List Str) (a1 : Str) (r : Option Int) (h : tree_Known a0 a1 = some r) :
 call Tryd.prog T H (.fn 93) [.p (.sl none 1 (List.map rowS a0)), .p (.lit (.string (bs a1)))] [] = some (outP (.ifc 115 (.agg [])) (fun (x : Int) => .p (iv x)) r, []) := by
 refine Sat.fn fun Q hQ => ?_
 unfold tree_Known at h
 rw [call93]
 conv => arg 1; arg 7; unfold S01.c93 Tryd.f93; simp only [Option.getD_some]
 obtain ⟨v1, e_v1, h⟩ := ob h
 have e_v1c := spec92 a0 a1 v1 e_v1
 by_cases c1 : v1 < 0
 ·have h := iteT h c1
  simp only [go_sem, e_v1c, c1]
  injection h with h; subst h
  exact Sat.ok hQ
 ·have h := iteF h c1
  simp only [go_sem, e_v1c, c1]
  injection h with h; subst h
  exact Sat.ok hQ
def tree_Reader_Skip (n : Nat) (a0 : tree_Reader) : Option (Bool × tree_Reader) :=
 whileL n a0.at_ (fun k1 (s1 : Int) n1 =>
  if s1 < (a0.text.length : Int) then
   (idx a0.text s1).bind fun v1 =>
   if (v1.toNat : Int) = 32 then
    n1 (w64 (s1 + 1))
   else
    k1 s1
  else
   k1 s1) fun s1 =>
 some (decide (a0.at_ < s1), (tree_Reader.mk a0.text s1))
theorem spec96 (n : Nat) (σ : List AObj) (p0 : Nat) (hp0 : p0 < σ.length) (a0 : tree_Reader) (r : Bool × tree_Reader) (h : tree_Reader_Skip n a0 = some r) :
 call Tryd.prog T H (.fn 96) [.ptr p0 0] (List.set σ p0 (.cells [.p (.lit (.string (bs a0.text))), .p (iv a0.at_)])) = some (.ret (.p (bv r.1)), (List.set σ p0 (.cells [.p (.lit (.string (bs r.2.text))), .p (iv r.2.at_)]))) := by
 refine Sat.fn fun Q hQ => ?_
 unfold tree_Reader_Skip at h
 rw [call96]
 conv => arg 1; arg 7; unfold S01.c96 Tryd.f96; simp only [Option.getD_some]
 simp only [go_sem, hp0, fun k => Nat.lt_add_right k hp0, Nat.not_le_of_lt hp0, fun k => Nat.not_le_of_lt (Nat.lt_add_right k hp0)]
 refine run_whileL (c := L96_0) (live := [0, 3]) (by simp only [go_sem]) (M := fun (s1 : Int) => [(0, .ptr p0 0), (3, .p (iv a0.at_))]) (Z := fun (s1 : Int) => (List.set σ p0 (.cells [.p (.lit (.string (bs a0.text))), .p (iv s1)]))) (N := fun (s1 : Int) => ⟨[(0, .ptr p0 0), (3, .p (iv a0.at_))], (List.set σ p0 (.cells [.p (.lit (.string (bs a0.text))), .p (iv s1)])), [], none, false⟩) h rfl rfl (fun _ => rfl) ?_ ?_
 ·intro s1 h
  try dsimp only at h ⊢
  simp only [go_sem, hp0, fun k => Nat.lt_add_right k hp0, Nat.not_le_of_lt hp0, fun k => Nat.not_le_of_lt (Nat.lt_add_right k hp0)]
  injection h with h; subst h
  exact Sat.ok hQ
 ·intro K1 k1 s1 n1 hR1 hE1 hb1 ih1 h
  try dsimp only at h ⊢
  conv => arg 1; arg 7; unfold L96_0 loopAt S01.c96 Tryd.f96; simp only [loopIn, Option.getD_some, if_true]
  by_cases c1 : s1 < (a0.text.length : Int)
  ·have h := iteT h c1
   obtain ⟨v1, e_v1, h⟩ := ob h
   obtain ⟨e_v1a, e_v1b⟩ := idx_some e_v1
   by_cases c2 : (v1.toNat : Int) = 32
   ·have h := iteT h c2
    have c2b : ((v1.toNat : Int) == 32) = true := beqT c2
    simp only [go_sem, c1, e_v1a, e_v1b, c2b, hR1, hE1, hp0, fun k => Nat.lt_add_right k hp0, Nat.not_le_of_lt hp0, fun k => Nat.not_le_of_lt (Nat.lt_add_right k hp0)]
    exact ih1 (w64 (s1 + 1)) h
   ·have h := iteF h c2
    have c2b : ((v1.toNat : Int) == 32) = false := beqF c2
    simp only [go_sem, c1, e_v1a, e_v1b, c2b, hR1, hE1, hp0, fun k => Nat.lt_add_right k hp0, Nat.not_le_of_lt hp0, fun k => Nat.not_le_of_lt (Nat.lt_add_right k hp0)]
    exact hb1 s1 h
  ·have h := iteF h c1
   simp only [go_sem, c1, hR1, hE1, hp0, fun k => Nat.lt_add_right k hp0, Nat.not_le_of_lt hp0, fun k => Nat.not_le_of_lt (Nat.lt_add_right k hp0)]
   exact hb1 s1 h
def tree_Reader_Name (n : Nat) (a0 : tree_Reader) : Option ((Option Str) × tree_Reader) :=
 (tree_Reader_Skip n a0).bind fun v1 =>
 whileL n v1.2.at_ (fun k1 (s1 : Int) n1 =>
  if s1 < (v1.2.text.length : Int) then
   (idx v1.2.text s1).bind fun v4 =>
   (tree_letter (v4.toNat : Int)).bind fun v5 =>
   if v5 = true then
    n1 (w64 (s1 + 1))
   else
    (tree_digit (v4.toNat : Int)).bind fun v6 =>
    if v6 = true then
     n1 (w64 (s1 + 1))
    else
     k1 s1
  else
   k1 s1) fun s1 =>
 (slc v1.2.text v1.2.at_ s1).bind fun v2 =>
 (tree_Name v2).bind fun v3 =>
 if v3 = true then
  some (some v2, (tree_Reader.mk v1.2.text s1))
 else
  some (none, (tree_Reader.mk v1.2.text s1))
theorem spec94 (n : Nat) (σ : List AObj) (p0 : Nat) (hp0 : p0 < σ.length) (a0 : tree_Reader) (r : (Option Str) × tree_Reader) (h : tree_Reader_Name n a0 = some r) :
 call Tryd.prog T H (.fn 94) [.ptr p0 0] (List.set σ p0 (.cells [.p (.lit (.string (bs a0.text))), .p (iv a0.at_)])) = some (outP (.ifc 115 (.agg [])) (fun (x : Str) => .p (.lit (.string (bs x)))) r.1, (List.set σ p0 (.cells [.p (.lit (.string (bs r.2.text))), .p (iv r.2.at_)]))) := by
 refine Sat.fn fun Q hQ => ?_
 unfold tree_Reader_Name at h
 rw [call94]
 conv => arg 1; arg 7; unfold S01.c94 Tryd.f94; simp only [Option.getD_some]
 obtain ⟨v1, e_v1, h⟩ := ob h
 have e_v1c : call Tryd.prog T H (.fn 96) [.ptr p0 0] (List.set σ p0 (.cells [.p (.lit (.string (bs a0.text))), .p (iv a0.at_)])) = some (.ret (.p (bv v1.1)), (List.set σ p0 (.cells [.p (.lit (.string (bs v1.2.text))), .p (iv v1.2.at_)]))) := by have q := spec96 n (List.set σ p0 (.cells [.p (.lit (.string (bs a0.text))), .p (iv a0.at_)])) p0 (by simp only [List.length_append, List.length_set, List.length_cons, List.length_nil]; omega) a0 v1 e_v1; first | (simp only [go_sem, hp0, fun k => Nat.lt_add_right k hp0, Nat.not_le_of_lt hp0, fun k => Nat.not_le_of_lt (Nat.lt_add_right k hp0)] at q ⊢; exact q) | exact q
 simp only [go_sem, e_v1c, hp0, fun k => Nat.lt_add_right k hp0, Nat.not_le_of_lt hp0, fun k => Nat.not_le_of_lt (Nat.lt_add_right k hp0)]
 refine run_whileL (c := L94_0) (live := [0, 3]) (by simp only [go_sem]) (M := fun (s1 : Int) => [(0, .ptr p0 0), (3, .p (iv v1.2.at_))]) (Z := fun (s1 : Int) => (List.set σ p0 (.cells [.p (.lit (.string (bs v1.2.text))), .p (iv s1)]))) (N := fun (s1 : Int) => ⟨[(0, .ptr p0 0), (3, .p (iv v1.2.at_))], (List.set σ p0 (.cells [.p (.lit (.string (bs v1.2.text))), .p (iv s1)])), [], none, false⟩) h rfl rfl (fun _ => rfl) ?_ ?_
 ·intro s1 h
  try dsimp only at h ⊢
  obtain ⟨v2, e_v2, h⟩ := ob h
  obtain ⟨e_v21, e_v22, e_v23, e_v24, e_v25⟩ := slc_some e_v2
  obtain ⟨v3, e_v3, h⟩ := ob h
  have e_v3c := spec25 v2 v3 e_v3
  by_cases c1 : v3 = true
  ·have h := iteT h c1
   simp only [go_sem, e_v21, e_v22, e_v23, e_v24, ← e_v25, e_v3c, c1, hp0, fun k => Nat.lt_add_right k hp0, Nat.not_le_of_lt hp0, fun k => Nat.not_le_of_lt (Nat.lt_add_right k hp0)]
   injection h with h; subst h
   exact Sat.ok hQ
  ·have h := iteF h c1
   have c1 := eq_false_of_ne_true c1
   simp only [go_sem, e_v21, e_v22, e_v23, e_v24, ← e_v25, e_v3c, c1, hp0, fun k => Nat.lt_add_right k hp0, Nat.not_le_of_lt hp0, fun k => Nat.not_le_of_lt (Nat.lt_add_right k hp0)]
   injection h with h; subst h
   exact Sat.ok hQ
 ·intro K1 k1 s1 n1 hR1 hE1 hb1 ih1 h
  try dsimp only at h ⊢
  conv => arg 1; arg 7; unfold L94_0 loopAt S01.c94 Tryd.f94; simp only [loopIn, Option.getD_some, if_true]
  by_cases c2 : s1 < (v1.2.text.length : Int)
  ·have h := iteT h c2
   obtain ⟨v4, e_v4, h⟩ := ob h
   obtain ⟨e_v4a, e_v4b⟩ := idx_some e_v4
   obtain ⟨v5, e_v5, h⟩ := ob h
   have e_v5c : call Tryd.prog T H (.fn 52) [.p (.lit (.int .u8 (v4.toNat : Int)))] [] = some (.ret (.p (bv v5)), []) := spec52 (v4.toNat : Int) v5 e_v5
   by_cases c3 : v5 = true
   ·have h := iteT h c3
    simp only [go_sem, c2, e_v4a, e_v4b, e_v5c, c3, hR1, hE1, hp0, fun k => Nat.lt_add_right k hp0, Nat.not_le_of_lt hp0, fun k => Nat.not_le_of_lt (Nat.lt_add_right k hp0)]
    exact ih1 (w64 (s1 + 1)) h
   ·have h := iteF h c3
    have c3 := eq_false_of_ne_true c3
    obtain ⟨v6, e_v6, h⟩ := ob h
    have e_v6c : call Tryd.prog T H (.fn 53) [.p (.lit (.int .u8 (v4.toNat : Int)))] [] = some (.ret (.p (bv v6)), []) := spec53 (v4.toNat : Int) v6 e_v6
    by_cases c4 : v6 = true
    ·have h := iteT h c4
     simp only [go_sem, c2, e_v4a, e_v4b, e_v5c, c3, e_v6c, c4, hR1, hE1, hp0, fun k => Nat.lt_add_right k hp0, Nat.not_le_of_lt hp0, fun k => Nat.not_le_of_lt (Nat.lt_add_right k hp0)]
     exact ih1 (w64 (s1 + 1)) h
    ·have h := iteF h c4
     have c4 := eq_false_of_ne_true c4
     simp only [go_sem, c2, e_v4a, e_v4b, e_v5c, c3, e_v6c, c4, hR1, hE1, hp0, fun k => Nat.lt_add_right k hp0, Nat.not_le_of_lt hp0, fun k => Nat.not_le_of_lt (Nat.lt_add_right k hp0)]
     exact hb1 s1 h
  ·have h := iteF h c2
   simp only [go_sem, c2, hR1, hE1, hp0, fun k => Nat.lt_add_right k hp0, Nat.not_le_of_lt hp0, fun k => Nat.not_le_of_lt (Nat.lt_add_right k hp0)]
   exact hb1 s1 h
def tree_Reader_Is (n : Nat) (a0 : tree_Reader) (a1 : Int) : Option (Bool × tree_Reader) :=
 (tree_Reader_Skip n a0).bind fun v1 =>
 if v1.2.at_ < (v1.2.text.length : Int) then
  (idx v1.2.text v1.2.at_).bind fun v2 =>
  if (v2.toNat : Int) = a1 then
   some (true, (tree_Reader.mk v1.2.text (w64 (v1.2.at_ + 1))))
  else
   some (false, v1.2)
 else
  some (false, v1.2)
theorem spec97 (n : Nat) (σ : List AObj) (p0 : Nat) (hp0 : p0 < σ.length) (a0 : tree_Reader) (a1 : Int) (r : Bool × tree_Reader) (h : tree_Reader_Is n a0 a1 = some r) :
 call Tryd.prog T H (.fn 97) [.ptr p0 0, .p (.lit (.int .u8 a1))] (List.set σ p0 (.cells [.p (.lit (.string (bs a0.text))), .p (iv a0.at_)])) = some (.ret (.p (bv r.1)), (List.set σ p0 (.cells [.p (.lit (.string (bs r.2.text))), .p (iv r.2.at_)]))) := by
 refine Sat.fn fun Q hQ => ?_
 unfold tree_Reader_Is at h
 rw [call97]
 conv => arg 1; arg 7; unfold S01.c97 Tryd.f97; simp only [Option.getD_some]
 obtain ⟨v1, e_v1, h⟩ := ob h
 have e_v1c : call Tryd.prog T H (.fn 96) [.ptr p0 0] (List.set σ p0 (.cells [.p (.lit (.string (bs a0.text))), .p (iv a0.at_)])) = some (.ret (.p (bv v1.1)), (List.set σ p0 (.cells [.p (.lit (.string (bs v1.2.text))), .p (iv v1.2.at_)]))) := by have q := spec96 n (List.set σ p0 (.cells [.p (.lit (.string (bs a0.text))), .p (iv a0.at_)])) p0 (by simp only [List.length_append, List.length_set, List.length_cons, List.length_nil]; omega) a0 v1 e_v1; first | (simp only [go_sem, hp0, fun k => Nat.lt_add_right k hp0, Nat.not_le_of_lt hp0, fun k => Nat.not_le_of_lt (Nat.lt_add_right k hp0)] at q ⊢; exact q) | exact q
 by_cases c1 : v1.2.at_ < (v1.2.text.length : Int)
 ·have h := iteT h c1
  obtain ⟨v2, e_v2, h⟩ := ob h
  obtain ⟨e_v2a, e_v2b⟩ := idx_some e_v2
  by_cases c2 : (v2.toNat : Int) = a1
  ·have h := iteT h c2
   have c2b : ((v2.toNat : Int) == a1) = true := beqT c2
   simp only [go_sem, e_v1c, c1, e_v2a, e_v2b, c2b, hp0, fun k => Nat.lt_add_right k hp0, Nat.not_le_of_lt hp0, fun k => Nat.not_le_of_lt (Nat.lt_add_right k hp0)]
   injection h with h; subst h
   exact Sat.ok hQ
  ·have h := iteF h c2
   have c2b : ((v2.toNat : Int) == a1) = false := beqF c2
   simp only [go_sem, e_v1c, c1, e_v2a, e_v2b, c2b, hp0, fun k => Nat.lt_add_right k hp0, Nat.not_le_of_lt hp0, fun k => Nat.not_le_of_lt (Nat.lt_add_right k hp0)]
   injection h with h; subst h
   exact Sat.ok hQ
 ·have h := iteF h c1
  simp only [go_sem, e_v1c, c1, hp0, fun k => Nat.lt_add_right k hp0, Nat.not_le_of_lt hp0, fun k => Nat.not_le_of_lt (Nat.lt_add_right k hp0)]
  injection h with h; subst h
  exact Sat.ok hQ
def tree_Reader_Take (n : Nat) (a0 : tree_Reader) (a1 : Int) : Option ((Option Unit) × tree_Reader) :=
 (tree_Reader_Is n a0 a1).bind fun v1 =>
 if v1.1 = true then
  some (some (), v1.2)
 else
  some (none, v1.2)
theorem spec95 (n : Nat) (σ : List AObj) (p0 : Nat) (hp0 : p0 < σ.length) (a0 : tree_Reader) (a1 : Int) (r : (Option Unit) × tree_Reader) (h : tree_Reader_Take n a0 a1 = some r) :
 call Tryd.prog T H (.fn 95) [.ptr p0 0, .p (.lit (.int .u8 a1))] (List.set σ p0 (.cells [.p (.lit (.string (bs a0.text))), .p (iv a0.at_)])) = some (outP (.ifc 115 (.agg [])) (fun (x : Unit) => .p (.tup [])) r.1, (List.set σ p0 (.cells [.p (.lit (.string (bs r.2.text))), .p (iv r.2.at_)]))) := by
 refine Sat.fn fun Q hQ => ?_
 unfold tree_Reader_Take at h
 rw [call95]
 conv => arg 1; arg 7; unfold S01.c95 Tryd.f95; simp only [Option.getD_some]
 obtain ⟨v1, e_v1, h⟩ := ob h
 have e_v1c : call Tryd.prog T H (.fn 97) [.ptr p0 0, .p (.lit (.int .u8 a1))] (List.set σ p0 (.cells [.p (.lit (.string (bs a0.text))), .p (iv a0.at_)])) = some (.ret (.p (bv v1.1)), (List.set σ p0 (.cells [.p (.lit (.string (bs v1.2.text))), .p (iv v1.2.at_)]))) := by have q := spec97 n (List.set σ p0 (.cells [.p (.lit (.string (bs a0.text))), .p (iv a0.at_)])) p0 (by simp only [List.length_append, List.length_set, List.length_cons, List.length_nil]; omega) a0 a1 v1 e_v1; first | (simp only [go_sem, hp0, fun k => Nat.lt_add_right k hp0, Nat.not_le_of_lt hp0, fun k => Nat.not_le_of_lt (Nat.lt_add_right k hp0)] at q ⊢; exact q) | exact q
 by_cases c1 : v1.1 = true
 ·have h := iteT h c1
  simp only [go_sem, e_v1c, c1, hp0, fun k => Nat.lt_add_right k hp0, Nat.not_le_of_lt hp0, fun k => Nat.not_le_of_lt (Nat.lt_add_right k hp0)]
  injection h with h; subst h
  exact Sat.ok hQ
 ·have h := iteF h c1
  have c1 := eq_false_of_ne_true c1
  simp only [go_sem, e_v1c, c1, hp0, fun k => Nat.lt_add_right k hp0, Nat.not_le_of_lt hp0, fun k => Nat.not_le_of_lt (Nat.lt_add_right k hp0)]
  injection h with h; subst h
  exact Sat.ok hQ
def tree_Reader_tree : Nat → tree_Reader → Alphabet → (List Str) → Option ((Option Tree) × tree_Reader)
 | 0, _, _, _ => none
 | n + 1, a0, a1, a2 =>
  (tree_Reader_Name n a0).bind fun v1 =>
  pn v1.1 (
   some (none, v1.2)) fun w1 =>
  (tree_Known a2 w1).bind fun v2 =>
  pn v2 (
   some (none, v1.2)) fun w2 =>
  (idx a1.Ranks w2).bind fun v3 =>
  if v3 = 0 then
   some (some (Tree.mk w2 ([] : List Tree)), v1.2)
  else
   (tree_Reader_Take n v1.2 40).bind fun v4 =>
   pn v4.1 (
    some (none, v4.2)) fun w3 =>
   rangeI v3 (v4.2.text, v4.2.at_, ([] : List Tree)) (fun k1 i1 (s1 : Str × Int × (List Tree)) n1 =>
    if 0 < (i1 : Int) then
     (tree_Reader_Take n (tree_Reader.mk s1.1 s1.2.1) 44).bind fun v6 =>
     pn v6.1 (
      some (none, v6.2)) fun w5 =>
     (tree_Reader_tree n v6.2 a1 a2).bind fun v7 =>
     pn v7.1 (
      some (none, v7.2)) fun w6 =>
     (app 32 s1.2.2 [w6]).bind fun v8 =>
     n1 (v7.2.text, v7.2.at_, v8)
    else
     (tree_Reader_tree n (tree_Reader.mk s1.1 s1.2.1) a1 a2).bind fun v9 =>
     pn v9.1 (
      some (none, v9.2)) fun w7 =>
     (app 32 s1.2.2 [w7]).bind fun v10 =>
     n1 (v9.2.text, v9.2.at_, v10)) fun s1 =>
   (tree_Reader_Take n (tree_Reader.mk s1.1 s1.2.1) 41).bind fun v5 =>
   pn v5.1 (
    some (none, v5.2)) fun w4 =>
   some (some (Tree.mk w2 s1.2.2), v5.2)
theorem spec88 : ∀ (n : Nat), (∀ (σ : List AObj) (p0 : Nat) (hp0 : p0 < σ.length) (a0 : tree_Reader) (a1 : Alphabet) (a2 : List Str) (r : (Option Tree) × tree_Reader), tree_Reader_tree n a0 a1 a2 = some r →
 call Tryd.prog T H (.fn 88) [.ptr p0 0, .p (.agg [.sl none 1 (List.map rowI a1.Ranks)]), .p (.sl none 1 (List.map rowS a2))] (List.set σ p0 (.cells [.p (.lit (.string (bs a0.text))), .p (iv a0.at_)])) = some (outP (.ifc 115 (.agg [])) (fun (x : Tree) => .p (.agg [iv x.Sym, .sl none 2 (List.map row_Tree x.Kids)])) r.1, (List.set σ p0 (.cells [.p (.lit (.string (bs r.2.text))), .p (iv r.2.at_)])))) := by
 intro n
 induction n with
 | zero => intro σ p0 hp0 a0 a1 a2 r h; cases h
 | succ n ih =>
  intro σ p0 hp0 a0 a1 a2 r h
  refine Sat.fn fun Q hQ => ?_
  rw [tree_Reader_tree] at h
  rw [call88]
  conv => arg 1; arg 7; unfold S01.c88 Tryd.f88; simp only [Option.getD_some]
  obtain ⟨v1, e_v1, h⟩ := ob h
  have e_v1c : call Tryd.prog T H (.fn 94) [.ptr p0 0] ((List.set σ p0 (.cells [.p (.lit (.string (bs a0.text))), .p (iv a0.at_)])) ++ [.cells [.p (.sl none 1 (List.map rowI a1.Ranks))], .cells [.p (iv 0), .own 2 []]]) = some (outP (.ifc 115 (.agg [])) (fun (x : Str) => .p (.lit (.string (bs x)))) v1.1, ((List.set σ p0 (.cells [.p (.lit (.string (bs v1.2.text))), .p (iv v1.2.at_)])) ++ [.cells [.p (.sl none 1 (List.map rowI a1.Ranks))], .cells [.p (iv 0), .own 2 []]])) := by have q := spec94 n ((List.set σ p0 (.cells [.p (.lit (.string (bs a0.text))), .p (iv a0.at_)])) ++ [.cells [.p (.sl none 1 (List.map rowI a1.Ranks))], .cells [.p (iv 0), .own 2 []]]) p0 (by simp only [List.length_append, List.length_set, List.length_cons, List.length_nil]; omega) a0 v1 e_v1; first | (simp only [go_sem, hp0, fun k => Nat.lt_add_right k hp0, Nat.not_le_of_lt hp0, fun k => Nat.not_le_of_lt (Nat.lt_add_right k hp0)] at q ⊢; exact q) | exact q
  rcases pn_cases h with ⟨hw1, h⟩ | ⟨w1, hw1, h⟩
  ·simp only [go_sem, e_v1c, hw1, hp0, fun k => Nat.lt_add_right k hp0, Nat.not_le_of_lt hp0, fun k => Nat.not_le_of_lt (Nat.lt_add_right k hp0)]
   injection h with h; subst h
   exact Sat.ok hQ
  ·obtain ⟨v2, e_v2, h⟩ := ob h
   have e_v2c := spec93 a2 w1 v2 e_v2
   rcases pn_cases h with ⟨hw2, h⟩ | ⟨w2, hw2, h⟩
   ·simp only [go_sem, e_v1c, hw1, e_v2c, hw2, hp0, fun k => Nat.lt_add_right k hp0, Nat.not_le_of_lt hp0, fun k => Nat.not_le_of_lt (Nat.lt_add_right k hp0)]
    injection h with h; subst h
    exact Sat.ok hQ
   ·obtain ⟨v3, e_v3, h⟩ := ob h
    obtain ⟨e_v3a, e_v3b⟩ := idx_some e_v3
    by_cases c1 : v3 = 0
    ·have h := iteT h c1
     have c1b : (v3 == 0) = true := beqT c1
     simp only [go_sem, e_v1c, hw1, e_v2c, hw2, e_v3a, e_v3b, c1b, hp0, fun k => Nat.lt_add_right k hp0, Nat.not_le_of_lt hp0, fun k => Nat.not_le_of_lt (Nat.lt_add_right k hp0)]
     injection h with h; subst h
     exact Sat.ok hQ
    ·have h := iteF h c1
     have c1b : (v3 == 0) = false := beqF c1
     obtain ⟨v4, e_v4, h⟩ := ob h
     have e_v4c : call Tryd.prog T H (.fn 95) [.ptr p0 0, .p (.lit (.int .u8 40))] ((List.set σ p0 (.cells [.p (.lit (.string (bs v1.2.text))), .p (iv v1.2.at_)])) ++ [.cells [.p (.sl none 1 (List.map rowI a1.Ranks))], .cells [.p (iv 0), .own 2 []], .cells [.p (iv w2), .own 2 []]]) = some (outP (.ifc 115 (.agg [])) (fun (x : Unit) => .p (.tup [])) v4.1, ((List.set σ p0 (.cells [.p (.lit (.string (bs v4.2.text))), .p (iv v4.2.at_)])) ++ [.cells [.p (.sl none 1 (List.map rowI a1.Ranks))], .cells [.p (iv 0), .own 2 []], .cells [.p (iv w2), .own 2 []]])) := by have q := spec95 n ((List.set σ p0 (.cells [.p (.lit (.string (bs v1.2.text))), .p (iv v1.2.at_)])) ++ [.cells [.p (.sl none 1 (List.map rowI a1.Ranks))], .cells [.p (iv 0), .own 2 []], .cells [.p (iv w2), .own 2 []]]) p0 (by simp only [List.length_append, List.length_set, List.length_cons, List.length_nil]; omega) v1.2 40 v4 e_v4; first | (simp only [go_sem, hp0, fun k => Nat.lt_add_right k hp0, Nat.not_le_of_lt hp0, fun k => Nat.not_le_of_lt (Nat.lt_add_right k hp0)] at q ⊢; exact q) | exact q
     rcases pn_cases h with ⟨hw3, h⟩ | ⟨w3, hw3, h⟩
     ·simp only [go_sem, e_v1c, hw1, e_v2c, hw2, e_v3a, e_v3b, c1b, e_v4c, hw3, hp0, fun k => Nat.lt_add_right k hp0, Nat.not_le_of_lt hp0, fun k => Nat.not_le_of_lt (Nat.lt_add_right k hp0)]
      injection h with h; subst h
      exact Sat.ok hQ
     ·simp only [go_sem, e_v1c, hw1, e_v2c, hw2, e_v3a, e_v3b, c1b, e_v4c, hw3, hp0, fun k => Nat.lt_add_right k hp0, Nat.not_le_of_lt hp0, fun k => Nat.not_le_of_lt (Nat.lt_add_right k hp0)]
      refine run_rangeI (c := L88_0) (live := [0, 2, 4, 6, 7, 26, 27]) (by simp only [go_sem]) (M := fun i1 (s1 : Str × Int × (List Tree)) => [(0, .ptr p0 0), (2, .p (.sl none 1 (List.map rowS a2))), (4, .ptr σ.length 0), (6, .ptr (σ.length + 1) 0), (7, .ptr (σ.length + 2) 0), (26, .p (iv v3)), (27, .p (iv (i1 : Int)))]) (Z := fun i1 (s1 : Str × Int × (List Tree)) => ((List.set σ p0 (.cells [.p (.lit (.string (bs s1.1))), .p (iv s1.2.1)])) ++ [.cells [.p (.sl none 1 (List.map rowI a1.Ranks))], .cells [.p (iv 0), .own 2 []], .cells [.p (iv w2), .own 2 (List.map row_Tree s1.2.2)]])) (N := fun (s1 : Str × Int × (List Tree)) => ⟨[(0, .ptr p0 0), (6, .ptr (σ.length + 1) 0), (7, .ptr (σ.length + 2) 0)], ((List.set σ p0 (.cells [.p (.lit (.string (bs s1.1))), .p (iv s1.2.1)])) ++ [.cells [.p (.sl none 1 (List.map rowI a1.Ranks))], .cells [.p (iv 0), .own 2 []], .cells [.p (iv w2), .own 2 (List.map row_Tree s1.2.2)]]), [], none, false⟩) h rfl rfl (fun _ _ => rfl) ?_ ?_ ?_
      ·intro s1 h
       try dsimp only at h ⊢
       obtain ⟨v5, e_v5, h⟩ := ob h
       have e_v5c : call Tryd.prog T H (.fn 95) [.ptr p0 0, .p (.lit (.int .u8 41))] ((List.set σ p0 (.cells [.p (.lit (.string (bs s1.1))), .p (iv s1.2.1)])) ++ [.cells [.p (.sl none 1 (List.map rowI a1.Ranks))], .cells [.p (iv 0), .own 2 []], .cells [.p (iv w2), .own 2 (List.map row_Tree s1.2.2)]]) = some (outP (.ifc 115 (.agg [])) (fun (x : Unit) => .p (.tup [])) v5.1, ((List.set σ p0 (.cells [.p (.lit (.string (bs v5.2.text))), .p (iv v5.2.at_)])) ++ [.cells [.p (.sl none 1 (List.map rowI a1.Ranks))], .cells [.p (iv 0), .own 2 []], .cells [.p (iv w2), .own 2 (List.map row_Tree s1.2.2)]])) := by have q := spec95 n ((List.set σ p0 (.cells [.p (.lit (.string (bs s1.1))), .p (iv s1.2.1)])) ++ [.cells [.p (.sl none 1 (List.map rowI a1.Ranks))], .cells [.p (iv 0), .own 2 []], .cells [.p (iv w2), .own 2 (List.map row_Tree s1.2.2)]]) p0 (by simp only [List.length_append, List.length_set, List.length_cons, List.length_nil]; omega) (tree_Reader.mk s1.1 s1.2.1) 41 v5 e_v5; first | (simp only [go_sem, hp0, fun k => Nat.lt_add_right k hp0, Nat.not_le_of_lt hp0, fun k => Nat.not_le_of_lt (Nat.lt_add_right k hp0)] at q ⊢; exact q) | exact q
       rcases pn_cases h with ⟨hw4, h⟩ | ⟨w4, hw4, h⟩
       ·simp only [go_sem, e_v5c, hw4, hp0, fun k => Nat.lt_add_right k hp0, Nat.not_le_of_lt hp0, fun k => Nat.not_le_of_lt (Nat.lt_add_right k hp0)]
        injection h with h; subst h
        exact Sat.ok hQ
       ·simp only [go_sem, e_v5c, hw4, hp0, fun k => Nat.lt_add_right k hp0, Nat.not_le_of_lt hp0, fun k => Nat.not_le_of_lt (Nat.lt_add_right k hp0)]
        injection h with h; subst h
        exact Sat.ok hQ
      ·intro K1 i1 s1 hb1 he1
       try dsimp only
       conv => arg 1; arg 7; unfold L88_0 loopAt S01.c88 Tryd.f88; simp only [loopIn, Option.getD_some, if_true]
       simp only [go_sem, he1, hp0, fun k => Nat.lt_add_right k hp0, Nat.not_le_of_lt hp0, fun k => Nat.not_le_of_lt (Nat.lt_add_right k hp0)]
       exact hb1
      ·intro K1 k1 i1 s1 n1 hR1 hE1 hb1 hi1 hw1 ih1 h
       try dsimp only at h ⊢
       conv => arg 1; arg 7; unfold L88_0 loopAt S01.c88 Tryd.f88; simp only [loopIn, Option.getD_some, if_true]
       by_cases c2 : 0 < (i1 : Int)
       ·have h := iteT h c2
        obtain ⟨v6, e_v6, h⟩ := ob h
        have e_v6c : call Tryd.prog T H (.fn 95) [.ptr p0 0, .p (.lit (.int .u8 44))] ((List.set σ p0 (.cells [.p (.lit (.string (bs s1.1))), .p (iv s1.2.1)])) ++ [.cells [.p (.sl none 1 (List.map rowI a1.Ranks))], .cells [.p (iv 0), .own 2 []], .cells [.p (iv w2), .own 2 (List.map row_Tree s1.2.2)]]) = some (outP (.ifc 115 (.agg [])) (fun (x : Unit) => .p (.tup [])) v6.1, ((List.set σ p0 (.cells [.p (.lit (.string (bs v6.2.text))), .p (iv v6.2.at_)])) ++ [.cells [.p (.sl none 1 (List.map rowI a1.Ranks))], .cells [.p (iv 0), .own 2 []], .cells [.p (iv w2), .own 2 (List.map row_Tree s1.2.2)]])) := by have q := spec95 n ((List.set σ p0 (.cells [.p (.lit (.string (bs s1.1))), .p (iv s1.2.1)])) ++ [.cells [.p (.sl none 1 (List.map rowI a1.Ranks))], .cells [.p (iv 0), .own 2 []], .cells [.p (iv w2), .own 2 (List.map row_Tree s1.2.2)]]) p0 (by simp only [List.length_append, List.length_set, List.length_cons, List.length_nil]; omega) (tree_Reader.mk s1.1 s1.2.1) 44 v6 e_v6; first | (simp only [go_sem, hp0, fun k => Nat.lt_add_right k hp0, Nat.not_le_of_lt hp0, fun k => Nat.not_le_of_lt (Nat.lt_add_right k hp0)] at q ⊢; exact q) | exact q
        rcases pn_cases h with ⟨hw5, h⟩ | ⟨w5, hw5, h⟩
        ·simp only [go_sem, hi1, hw1, c2, e_v6c, hw5, hR1, hE1, hp0, fun k => Nat.lt_add_right k hp0, Nat.not_le_of_lt hp0, fun k => Nat.not_le_of_lt (Nat.lt_add_right k hp0)]
         injection h with h; subst h
         exact Sat.ok hQ
        ·obtain ⟨v7, e_v7, h⟩ := ob h
         have e_v7c : call Tryd.prog T H (.fn 88) [.ptr p0 0, .p (.agg [.sl none 1 (List.map rowI a1.Ranks)]), .p (.sl none 1 (List.map rowS a2))] ((List.set σ p0 (.cells [.p (.lit (.string (bs v6.2.text))), .p (iv v6.2.at_)])) ++ [.cells [.p (.sl none 1 (List.map rowI a1.Ranks))], .cells [.p (iv 0), .own 2 []], .hid]) = some (outP (.ifc 115 (.agg [])) (fun (x : Tree) => .p (.agg [iv x.Sym, .sl none 2 (List.map row_Tree x.Kids)])) v7.1, ((List.set σ p0 (.cells [.p (.lit (.string (bs v7.2.text))), .p (iv v7.2.at_)])) ++ [.cells [.p (.sl none 1 (List.map rowI a1.Ranks))], .cells [.p (iv 0), .own 2 []], .hid])) := by have q := ih ((List.set σ p0 (.cells [.p (.lit (.string (bs v6.2.text))), .p (iv v6.2.at_)])) ++ [.cells [.p (.sl none 1 (List.map rowI a1.Ranks))], .cells [.p (iv 0), .own 2 []], .hid]) p0 (by simp only [List.length_append, List.length_set, List.length_cons, List.length_nil]; omega) v6.2 a1 a2 v7 e_v7; first | (simp only [go_sem, hp0, fun k => Nat.lt_add_right k hp0, Nat.not_le_of_lt hp0, fun k => Nat.not_le_of_lt (Nat.lt_add_right k hp0)] at q ⊢; exact q) | exact q
         rcases pn_cases h with ⟨hw6, h⟩ | ⟨w6, hw6, h⟩
         ·simp only [go_sem, hi1, hw1, c2, e_v6c, hw5, e_v7c, hw6, hR1, hE1, hp0, fun k => Nat.lt_add_right k hp0, Nat.not_le_of_lt hp0, fun k => Nat.not_le_of_lt (Nat.lt_add_right k hp0)]
          injection h with h; subst h
          exact Sat.ok hQ
         ·obtain ⟨v8, e_v8, h⟩ := ob h
          have e_v8a : boundOk (s1.2.2.length + 1) 32 = true := bnd_of (by have := (app_some e_v8).1; simpa using this) (by decide)
          have e_v8b : (List.map row_Tree s1.2.2) ++ [[iv w6.Sym, .sl none 2 (List.map row_Tree w6.Kids)]] = List.map row_Tree v8 := by rw [(app_some e_v8).2]; simp [row_Tree_eq]
          simp only [go_sem, hi1, hw1, c2, e_v6c, hw5, e_v7c, hw6, e_v8a, e_v8b, hR1, hE1, hp0, fun k => Nat.lt_add_right k hp0, Nat.not_le_of_lt hp0, fun k => Nat.not_le_of_lt (Nat.lt_add_right k hp0)]
          exact ih1 (v7.2.text, v7.2.at_, v8) h
       ·have h := iteF h c2
        obtain ⟨v9, e_v9, h⟩ := ob h
        have e_v9c : call Tryd.prog T H (.fn 88) [.ptr p0 0, .p (.agg [.sl none 1 (List.map rowI a1.Ranks)]), .p (.sl none 1 (List.map rowS a2))] ((List.set σ p0 (.cells [.p (.lit (.string (bs s1.1))), .p (iv s1.2.1)])) ++ [.cells [.p (.sl none 1 (List.map rowI a1.Ranks))], .cells [.p (iv 0), .own 2 []], .hid]) = some (outP (.ifc 115 (.agg [])) (fun (x : Tree) => .p (.agg [iv x.Sym, .sl none 2 (List.map row_Tree x.Kids)])) v9.1, ((List.set σ p0 (.cells [.p (.lit (.string (bs v9.2.text))), .p (iv v9.2.at_)])) ++ [.cells [.p (.sl none 1 (List.map rowI a1.Ranks))], .cells [.p (iv 0), .own 2 []], .hid])) := by have q := ih ((List.set σ p0 (.cells [.p (.lit (.string (bs s1.1))), .p (iv s1.2.1)])) ++ [.cells [.p (.sl none 1 (List.map rowI a1.Ranks))], .cells [.p (iv 0), .own 2 []], .hid]) p0 (by simp only [List.length_append, List.length_set, List.length_cons, List.length_nil]; omega) (tree_Reader.mk s1.1 s1.2.1) a1 a2 v9 e_v9; first | (simp only [go_sem, hp0, fun k => Nat.lt_add_right k hp0, Nat.not_le_of_lt hp0, fun k => Nat.not_le_of_lt (Nat.lt_add_right k hp0)] at q ⊢; exact q) | exact q
        rcases pn_cases h with ⟨hw7, h⟩ | ⟨w7, hw7, h⟩
        ·simp only [go_sem, hi1, hw1, c2, e_v9c, hw7, hR1, hE1, hp0, fun k => Nat.lt_add_right k hp0, Nat.not_le_of_lt hp0, fun k => Nat.not_le_of_lt (Nat.lt_add_right k hp0)]
         injection h with h; subst h
         exact Sat.ok hQ
        ·obtain ⟨v10, e_v10, h⟩ := ob h
         have e_v10a : boundOk (s1.2.2.length + 1) 32 = true := bnd_of (by have := (app_some e_v10).1; simpa using this) (by decide)
         have e_v10b : (List.map row_Tree s1.2.2) ++ [[iv w7.Sym, .sl none 2 (List.map row_Tree w7.Kids)]] = List.map row_Tree v10 := by rw [(app_some e_v10).2]; simp [row_Tree_eq]
         simp only [go_sem, hi1, hw1, c2, e_v9c, hw7, e_v10a, e_v10b, hR1, hE1, hp0, fun k => Nat.lt_add_right k hp0, Nat.not_le_of_lt hp0, fun k => Nat.not_le_of_lt (Nat.lt_add_right k hp0)]
         exact ih1 (v9.2.text, v9.2.at_, v10) h
def tree_Reader_End (n : Nat) (a0 : tree_Reader) : Option (Bool × tree_Reader) :=
 (tree_Reader_Skip n a0).bind fun v1 =>
 some ((v1.2.at_ == (v1.2.text.length : Int)), v1.2)
theorem spec89 (n : Nat) (σ : List AObj) (p0 : Nat) (hp0 : p0 < σ.length) (a0 : tree_Reader) (r : Bool × tree_Reader) (h : tree_Reader_End n a0 = some r) :
 call Tryd.prog T H (.fn 89) [.ptr p0 0] (List.set σ p0 (.cells [.p (.lit (.string (bs a0.text))), .p (iv a0.at_)])) = some (.ret (.p (bv r.1)), (List.set σ p0 (.cells [.p (.lit (.string (bs r.2.text))), .p (iv r.2.at_)]))) := by
 refine Sat.fn fun Q hQ => ?_
 unfold tree_Reader_End at h
 rw [call89]
 conv => arg 1; arg 7; unfold S01.c89 Tryd.f89; simp only [Option.getD_some]
 obtain ⟨v1, e_v1, h⟩ := ob h
 have e_v1c : call Tryd.prog T H (.fn 96) [.ptr p0 0] (List.set σ p0 (.cells [.p (.lit (.string (bs a0.text))), .p (iv a0.at_)])) = some (.ret (.p (bv v1.1)), (List.set σ p0 (.cells [.p (.lit (.string (bs v1.2.text))), .p (iv v1.2.at_)]))) := by have q := spec96 n (List.set σ p0 (.cells [.p (.lit (.string (bs a0.text))), .p (iv a0.at_)])) p0 (by simp only [List.length_append, List.length_set, List.length_cons, List.length_nil]; omega) a0 v1 e_v1; first | (simp only [go_sem, hp0, fun k => Nat.lt_add_right k hp0, Nat.not_le_of_lt hp0, fun k => Nat.not_le_of_lt (Nat.lt_add_right k hp0)] at q ⊢; exact q) | exact q
 simp only [go_sem, e_v1c, hp0, fun k => Nat.lt_add_right k hp0, Nat.not_le_of_lt hp0, fun k => Nat.not_le_of_lt (Nat.lt_add_right k hp0)]
 injection h with h; subst h
 exact Sat.ok hQ
def tree_read (n : Nat) (a0 : Alphabet) (a1 : List Str) (a2 : Str) : Option (Tree × Int) :=
 (tree_Reader_tree n (tree_Reader.mk a2 0) a0 a1).bind fun v1 =>
 pn v1.1 (
  some ((Tree.mk 0 ([] : List Tree)), 4)) fun w1 =>
 (tree_Reader_End n v1.2).bind fun v2 =>
 if v2.1 = true then
  some (w1, 0)
 else
  some (w1, 4)
theorem spec68 (n : Nat) (a0 : Alphabet) (a1 : List Str) (a2 : Str) (r : Tree × Int) (h : tree_read n a0 a1 a2 = some r) :
 call Tryd.prog T H (.fn 68) [.p (.agg [.sl none 1 (List.map rowI a0.Ranks)]), .p (.sl none 1 (List.map rowS a1)), .p (.lit (.string (bs a2)))] [] = some (.ret (.p (.tup [.agg [iv r.1.Sym, .sl none 2 (List.map row_Tree r.1.Kids)], iv r.2])), []) := by
 refine Sat.fn fun Q hQ => ?_
 unfold tree_read at h
 rw [call68]
 conv => arg 1; arg 7; unfold S01.c68 Tryd.f68; simp only [Option.getD_some, dA]
 simp only [go_sem]
 conv => arg 1; arg 7; unfold S01.c68 Tryd.f68; simp only [Option.getD_some, dB]
 simp only [go_sem]
 refine Sat.callc ?_
 rw [call87]
 conv => arg 1; arg 7; unfold S01.c87 Tryd.f87; simp only [Option.getD_some]
 simp only [go_sem]
 refine Sat.ok ?_
 obtain ⟨v1, e_v1, h⟩ := ob h
 have e_v1c : call Tryd.prog T H (.fn 88) [.ptr 3 0, .p (.agg [.sl none 1 (List.map rowI a0.Ranks)]), .p (.sl none 1 (List.map rowS a1))] [.cells [.p (.sl none 1 (List.map rowI a0.Ranks))], .cells [.p (iv 0), .own 2 []], .cells [.p (iv 0)], .cells [.p (.lit (.string (bs a2))), .p (iv 0)]] = some (outP (.ifc 115 (.agg [])) (fun (x : Tree) => .p (.agg [iv x.Sym, .sl none 2 (List.map row_Tree x.Kids)])) v1.1, [.cells [.p (.sl none 1 (List.map rowI a0.Ranks))], .cells [.p (iv 0), .own 2 []], .cells [.p (iv 0)], .cells [.p (.lit (.string (bs v1.2.text))), .p (iv v1.2.at_)]]) := by have q := spec88 n [.cells [.p (.sl none 1 (List.map rowI a0.Ranks))], .cells [.p (iv 0), .own 2 []], .cells [.p (iv 0)], .cells [.p (.lit (.string (bs a2))), .p (iv 0)]] 3 (by simp only [List.length_append, List.length_set, List.length_cons, List.length_nil]; omega) (tree_Reader.mk a2 0) a0 a1 v1 e_v1; first | (simp only [go_sem] at q ⊢; exact q) | exact q
 rcases pn_cases h with ⟨hw1, h⟩ | ⟨w1, hw1, h⟩
 ·simp only [go_sem, e_v1c, hw1]
  injection h with h; subst h
  exact Sat.ok hQ
 ·obtain ⟨v2, e_v2, h⟩ := ob h
  have e_v2c : call Tryd.prog T H (.fn 89) [.ptr 3 0] [.cells [.p (.sl none 1 (List.map rowI a0.Ranks))], .cells [.p (iv w1.Sym), .p (.sl none 2 (List.map row_Tree w1.Kids))], .cells [.p (iv 0)], .cells [.p (.lit (.string (bs v1.2.text))), .p (iv v1.2.at_)]] = some (.ret (.p (bv v2.1)), [.cells [.p (.sl none 1 (List.map rowI a0.Ranks))], .cells [.p (iv w1.Sym), .p (.sl none 2 (List.map row_Tree w1.Kids))], .cells [.p (iv 0)], .cells [.p (.lit (.string (bs v2.2.text))), .p (iv v2.2.at_)]]) := by have q := spec89 n [.cells [.p (.sl none 1 (List.map rowI a0.Ranks))], .cells [.p (iv w1.Sym), .p (.sl none 2 (List.map row_Tree w1.Kids))], .cells [.p (iv 0)], .cells [.p (.lit (.string (bs v1.2.text))), .p (iv v1.2.at_)]] 3 (by simp only [List.length_append, List.length_set, List.length_cons, List.length_nil]; omega) v1.2 v2 e_v2; first | (simp only [go_sem] at q ⊢; exact q) | exact q
  by_cases c1 : v2.1 = true
  ·have h := iteT h c1
   simp only [go_sem, e_v1c, hw1, e_v2c, c1]
   injection h with h; subst h
   exact Sat.ok hQ
  ·have h := iteF h c1
   have c1 := eq_false_of_ne_true c1
   simp only [go_sem, e_v1c, hw1, e_v2c, c1]
   injection h with h; subst h
   exact Sat.ok hQ
def tree_Parse (n : Nat) (a0 : Alphabet) (a1 : List Str) (a2 : Str) : Option (Tree × Int) :=
 (tree_ValidAlphabet a0).bind fun v1 =>
 if v1 = true then
  (tree_Names a1 (a0.Ranks.length : Int)).bind fun v2 =>
  if v2 = true then
   if 16384 < (a2.length : Int) then
    some ((Tree.mk 0 ([] : List Tree)), 3)
   else
    (tree_read n a0 a1 a2).bind fun v3 =>
    if v3.2 = 0 then
     (tree_Size n v3.1).bind fun v4 =>
     if 300 < v4 then
      some ((Tree.mk 0 ([] : List Tree)), 3)
     else
      some (v3.1, 0)
    else
     some ((Tree.mk 0 ([] : List Tree)), v3.2)
  else
   some ((Tree.mk 0 ([] : List Tree)), 4)
 else
  some ((Tree.mk 0 ([] : List Tree)), 1)
theorem spec36 (n : Nat) (a0 : Alphabet) (a1 : List Str) (a2 : Str) (r : Tree × Int) (h : tree_Parse n a0 a1 a2 = some r) :
 call Tryd.prog T H (.fn 36) [.p (.agg [.sl none 1 (List.map rowI a0.Ranks)]), .p (.sl none 1 (List.map rowS a1)), .p (.lit (.string (bs a2)))] [] = some (.ret (.p (.tup [.agg [iv r.1.Sym, .sl none 2 (List.map row_Tree r.1.Kids)], iv r.2])), []) := by
 refine Sat.fn fun Q hQ => ?_
 unfold tree_Parse at h
 rw [call36]
 conv => arg 1; arg 7; unfold S01.c36 Tryd.f36; simp only [Option.getD_some]
 obtain ⟨v1, e_v1, h⟩ := ob h
 have e_v1c := spec15 a0 v1 e_v1
 by_cases c1 : v1 = true
 ·have h := iteT h c1
  obtain ⟨v2, e_v2, h⟩ := ob h
  have e_v2c : call Tryd.prog T H (.fn 64) [.p (.sl none 1 (List.map rowS a1)), .p (iv (a0.Ranks.length : Int))] [] = some (.ret (.p (bv v2)), []) := spec64 a1 (a0.Ranks.length : Int) v2 e_v2
  by_cases c2 : v2 = true
  ·have h := iteT h c2
   by_cases c3 : 16384 < (a2.length : Int)
   ·have h := iteT h c3
    simp only [go_sem, e_v1c, c1, e_v2c, c2, c3]
    injection h with h; subst h
    exact Sat.ok hQ
   ·have h := iteF h c3
    obtain ⟨v3, e_v3, h⟩ := ob h
    have e_v3c := spec68 n a0 a1 a2 v3 e_v3
    by_cases c4 : v3.2 = 0
    ·have h := iteT h c4
     have c4b : (v3.2 != 0) = false := bneF c4
     obtain ⟨v4, e_v4, h⟩ := ob h
     have e_v4c := spec19 n v3.1 v4 e_v4
     by_cases c5 : 300 < v4
     ·have h := iteT h c5
      simp only [go_sem, e_v1c, c1, e_v2c, c2, c3, e_v3c, c4b, e_v4c, c5]
      injection h with h; subst h
      exact Sat.ok hQ
     ·have h := iteF h c5
      simp only [go_sem, e_v1c, c1, e_v2c, c2, c3, e_v3c, c4b, e_v4c, c5]
      injection h with h; subst h
      exact Sat.ok hQ
    ·have h := iteF h c4
     have c4b : (v3.2 != 0) = true := bneT c4
     simp only [go_sem, e_v1c, c1, e_v2c, c2, c3, e_v3c, c4b]
     injection h with h; subst h
     exact Sat.ok hQ
  ·have h := iteF h c2
   have c2 := eq_false_of_ne_true c2
   simp only [go_sem, e_v1c, c1, e_v2c, c2]
   injection h with h; subst h
   exact Sat.ok hQ
 ·have h := iteF h c1
  have c1 := eq_false_of_ne_true c1
  simp only [go_sem, e_v1c, c1]
  injection h with h; subst h
  exact Sat.ok hQ
def ref01_reader_blanks (n : Nat) (a0 : ref01_reader) : Option ref01_reader :=
 whileL n a0.s (fun k1 (s1 : Str) n1 =>
  if s1 = ([] : Str) then
   k1 s1
  else
   (s1[0]?).bind fun v1 =>
   if (v1.toNat : Int) = 32 then
    (slcF s1 1).bind fun v2 =>
    n1 v2
   else
    k1 s1) fun s1 =>
 some (ref01_reader.mk a0.a a0.names s1 a0.bad)
theorem spec70 (n : Nat) (σ : List AObj) (p0 : Nat) (hp0 : p0 < σ.length) (a0 : ref01_reader) (r : ref01_reader) (h : ref01_reader_blanks n a0 = some r) :
 call Tryd.prog T H (.fn 70) [.ptr p0 0] (List.set σ p0 (.cells [.p (.sl none 1 (List.map rowI a0.a.Ranks)), .p (.sl none 1 (List.map rowS a0.names)), .p (.lit (.string (bs a0.s))), .p (bv a0.bad)])) = some (.ret (.p (.tup [])), (List.set σ p0 (.cells [.p (.sl none 1 (List.map rowI r.a.Ranks)), .p (.sl none 1 (List.map rowS r.names)), .p (.lit (.string (bs r.s))), .p (bv r.bad)]))) := by
 refine Sat.fn fun Q hQ => ?_
 unfold ref01_reader_blanks at h
 rw [call70]
 conv => arg 1; arg 7; unfold S01.c70 Tryd.f70; simp only [Option.getD_some]
 simp only [go_sem, hp0, fun k => Nat.lt_add_right k hp0, Nat.not_le_of_lt hp0, fun k => Nat.not_le_of_lt (Nat.lt_add_right k hp0)]
 refine run_whileL (c := L70_0) (live := [0]) (by simp only [go_sem]) (M := fun (s1 : Str) => [(0, .ptr p0 0)]) (Z := fun (s1 : Str) => (List.set σ p0 (.cells [.p (.sl none 1 (List.map rowI a0.a.Ranks)), .p (.sl none 1 (List.map rowS a0.names)), .p (.lit (.string (bs s1))), .p (bv a0.bad)]))) (N := fun (s1 : Str) => ⟨[], (List.set σ p0 (.cells [.p (.sl none 1 (List.map rowI a0.a.Ranks)), .p (.sl none 1 (List.map rowS a0.names)), .p (.lit (.string (bs s1))), .p (bv a0.bad)])), [], none, false⟩) h rfl rfl (fun _ => rfl) ?_ ?_
 ·intro s1 h
  try dsimp only at h ⊢
  simp only [go_sem, hp0, fun k => Nat.lt_add_right k hp0, Nat.not_le_of_lt hp0, fun k => Nat.not_le_of_lt (Nat.lt_add_right k hp0)]
  injection h with h; subst h
  exact Sat.ok hQ
 ·intro K1 k1 s1 n1 hR1 hE1 hb1 ih1 h
  try dsimp only at h ⊢
  conv => arg 1; arg 7; unfold L70_0 loopAt S01.c70 Tryd.f70; simp only [loopIn, Option.getD_some, if_true]
  by_cases c1 : s1 = ([] : Str)
  ·have h := iteT h c1
   have c1b : (s1 == ([] : Str)) = true := beqT c1
   simp only [go_sem, c1b, hR1, hE1, hp0, fun k => Nat.lt_add_right k hp0, Nat.not_le_of_lt hp0, fun k => Nat.not_le_of_lt (Nat.lt_add_right k hp0)]
   exact hb1 s1 h
  ·have h := iteF h c1
   have c1b : (s1 == ([] : Str)) = false := beqF c1
   obtain ⟨v1, e_v1, h⟩ := ob h
   by_cases c2 : (v1.toNat : Int) = 32
   ·have h := iteT h c2
    have c2b : ((v1.toNat : Int) == 32) = true := beqT c2
    obtain ⟨v2, e_v2, h⟩ := ob h
    obtain ⟨e_v21, e_v22, e_v23, e_v24⟩ := slcF_some e_v2
    simp only [Int.reduceToNat] at e_v22
    simp only [Int.reduceToNat] at e_v24
    simp only [go_sem, c1b, e_v1, c2b, e_v22, ← e_v24, hR1, hE1, hp0, fun k => Nat.lt_add_right k hp0, Nat.not_le_of_lt hp0, fun k => Nat.not_le_of_lt (Nat.lt_add_right k hp0)]
    exact ih1 v2 h
   ·have h := iteF h c2
    have c2b : ((v1.toNat : Int) == 32) = false := beqF c2
    simp only [go_sem, c1b, e_v1, c2b, hR1, hE1, hp0, fun k => Nat.lt_add_right k hp0, Nat.not_le_of_lt hp0, fun k => Nat.not_le_of_lt (Nat.lt_add_right k hp0)]
    exact hb1 s1 h
def ref01_reader_must (n : Nat) (a0 : ref01_reader) (a1 : Int) : Option ref01_reader :=
 (ref01_reader_blanks n a0).bind fun v1 =>
 if v1.s = ([] : Str) then
  some (ref01_reader.mk v1.a v1.names v1.s true)
 else
  (v1.s[0]?).bind fun v2 =>
  if (v2.toNat : Int) = a1 then
   (slcF v1.s 1).bind fun v3 =>
   some (ref01_reader.mk v1.a v1.names v3 v1.bad)
  else
   some (ref01_reader.mk v1.a v1.names v1.s true)
theorem spec90 (n : Nat) (σ : List AObj) (p0 : Nat) (hp0 : p0 < σ.length) (a0 : ref01_reader) (a1 : Int) (r : ref01_reader) (h : ref01_reader_must n a0 a1 = some r) :
 call Tryd.prog T H (.fn 90) [.ptr p0 0, .p (.lit (.int .u8 a1))] (List.set σ p0 (.cells [.p (.sl none 1 (List.map rowI a0.a.Ranks)), .p (.sl none 1 (List.map rowS a0.names)), .p (.lit (.string (bs a0.s))), .p (bv a0.bad)])) = some (.ret (.p (.tup [])), (List.set σ p0 (.cells [.p (.sl none 1 (List.map rowI r.a.Ranks)), .p (.sl none 1 (List.map rowS r.names)), .p (.lit (.string (bs r.s))), .p (bv r.bad)]))) := by
 refine Sat.fn fun Q hQ => ?_
 unfold ref01_reader_must at h
 rw [call90]
 conv => arg 1; arg 7; unfold S01.c90 Tryd.f90; simp only [Option.getD_some]
 obtain ⟨v1, e_v1, h⟩ := ob h
 have e_v1c : call Tryd.prog T H (.fn 70) [.ptr p0 0] (List.set σ p0 (.cells [.p (.sl none 1 (List.map rowI a0.a.Ranks)), .p (.sl none 1 (List.map rowS a0.names)), .p (.lit (.string (bs a0.s))), .p (bv a0.bad)])) = some (.ret (.p (.tup [])), (List.set σ p0 (.cells [.p (.sl none 1 (List.map rowI v1.a.Ranks)), .p (.sl none 1 (List.map rowS v1.names)), .p (.lit (.string (bs v1.s))), .p (bv v1.bad)]))) := by have q := spec70 n (List.set σ p0 (.cells [.p (.sl none 1 (List.map rowI a0.a.Ranks)), .p (.sl none 1 (List.map rowS a0.names)), .p (.lit (.string (bs a0.s))), .p (bv a0.bad)])) p0 (by simp only [List.length_append, List.length_set, List.length_cons, List.length_nil]; omega) a0 v1 e_v1; first | (simp only [go_sem, hp0, fun k => Nat.lt_add_right k hp0, Nat.not_le_of_lt hp0, fun k => Nat.not_le_of_lt (Nat.lt_add_right k hp0)] at q ⊢; exact q) | exact q
 by_cases c1 : v1.s = ([] : Str)
 ·have h := iteT h c1
  have c1b : (v1.s == ([] : Str)) = true := beqT c1
  simp only [go_sem, e_v1c, c1b, hp0, fun k => Nat.lt_add_right k hp0, Nat.not_le_of_lt hp0, fun k => Nat.not_le_of_lt (Nat.lt_add_right k hp0)]
  injection h with h; subst h
  exact Sat.ok hQ
 ·have h := iteF h c1
  have c1b : (v1.s == ([] : Str)) = false := beqF c1
  obtain ⟨v2, e_v2, h⟩ := ob h
  by_cases c2 : (v2.toNat : Int) = a1
  ·have h := iteT h c2
   have c2b : ((v2.toNat : Int) != a1) = false := bneF c2
   obtain ⟨v3, e_v3, h⟩ := ob h
   obtain ⟨e_v31, e_v32, e_v33, e_v34⟩ := slcF_some e_v3
   simp only [Int.reduceToNat] at e_v32
   simp only [Int.reduceToNat] at e_v34
   simp only [go_sem, e_v1c, c1b, e_v2, c2b, e_v32, ← e_v34, hp0, fun k => Nat.lt_add_right k hp0, Nat.not_le_of_lt hp0, fun k => Nat.not_le_of_lt (Nat.lt_add_right k hp0)]
   injection h with h; subst h
   exact Sat.ok hQ
  ·have h := iteF h c2
   have c2b : ((v2.toNat : Int) != a1) = true := bneT c2
   simp only [go_sem, e_v1c, c1b, e_v2, c2b, hp0, fun k => Nat.lt_add_right k hp0, Nat.not_le_of_lt hp0, fun k => Nat.not_le_of_lt (Nat.lt_add_right k hp0)]
   injection h with h; subst h
   exact Sat.ok hQ
def ref01_reader_tree : Nat → ref01_reader → Option (Tree × ref01_reader)
 | 0, _ => none
 | n + 1, a0 =>
  (ref01_reader_blanks n a0).bind fun v1 =>
  (ref01_Word n v1.s).bind fun v2 =>
  (slcT v1.s v2).bind fun v3 =>
  (ref01_Place v1.names v3).bind fun v4 =>
  if v4 < 0 then
   some ((Tree.mk 0 ([] : List Tree)), (ref01_reader.mk v1.a v1.names v1.s true))
  else
   (slcF v1.s v2).bind fun v5 =>
   (idx v1.a.Ranks v4).bind fun v6 =>
   rangeI v6 (v1.a.Ranks, v1.names, v5, v1.bad, ([] : List Tree)) (fun k1 i1 (s1 : (List Int) × (List Str) × Str × Bool × (List Tree)) n1 =>
    if (i1 : Int) = 0 then
     (ref01_reader_must n (ref01_reader.mk (Alphabet.mk s1.1) s1.2.1 s1.2.2.1 s1.2.2.2.1) 40).bind fun v9 =>
     if v9.bad = true then
      some ((Tree.mk v4 s1.2.2.2.2), (ref01_reader.mk v9.a v9.names v9.s true))
     else
      (ref01_reader_tree n (ref01_reader.mk v9.a v9.names v9.s false)).bind fun v10 =>
      (app 32 s1.2.2.2.2 [v10.1]).bind fun v11 =>
      if v10.2.bad = true then
       some ((Tree.mk v4 v11), (ref01_reader.mk v10.2.a v10.2.names v10.2.s true))
      else
       n1 (v10.2.a.Ranks, v10.2.names, v10.2.s, false, v11)
    else
     (ref01_reader_must n (ref01_reader.mk (Alphabet.mk s1.1) s1.2.1 s1.2.2.1 s1.2.2.2.1) 44).bind fun v12 =>
     if v12.bad = true then
      some ((Tree.mk v4 s1.2.2.2.2), (ref01_reader.mk v12.a v12.names v12.s true))
     else
      (ref01_reader_tree n (ref01_reader.mk v12.a v12.names v12.s false)).bind fun v13 =>
      (app 32 s1.2.2.2.2 [v13.1]).bind fun v14 =>
      if v13.2.bad = true then
       some ((Tree.mk v4 v14), (ref01_reader.mk v13.2.a v13.2.names v13.2.s true))
      else
       n1 (v13.2.a.Ranks, v13.2.names, v13.2.s, false, v14)) fun s1 =>
   (idx s1.1 v4).bind fun v7 =>
   if 0 < v7 then
    (ref01_reader_must n (ref01_reader.mk (Alphabet.mk s1.1) s1.2.1 s1.2.2.1 s1.2.2.2.1) 41).bind fun v8 =>
    some ((Tree.mk v4 s1.2.2.2.2), v8)
   else
    some ((Tree.mk v4 s1.2.2.2.2), (ref01_reader.mk (Alphabet.mk s1.1) s1.2.1 s1.2.2.1 s1.2.2.2.1))
theorem spec69 : ∀ (n : Nat), (∀ (σ : List AObj) (p0 : Nat) (hp0 : p0 < σ.length) (a0 : ref01_reader) (r : Tree × ref01_reader), ref01_reader_tree n a0 = some r →
 call Tryd.prog T H (.fn 69) [.ptr p0 0] (List.set σ p0 (.cells [.p (.sl none 1 (List.map rowI a0.a.Ranks)), .p (.sl none 1 (List.map rowS a0.names)), .p (.lit (.string (bs a0.s))), .p (bv a0.bad)])) = some (.ret (.p (.agg [iv r.1.Sym, .sl none 2 (List.map row_Tree r.1.Kids)])), (List.set σ p0 (.cells [.p (.sl none 1 (List.map rowI r.2.a.Ranks)), .p (.sl none 1 (List.map rowS r.2.names)), .p (.lit (.string (bs r.2.s))), .p (bv r.2.bad)])))) := by
 intro n
 induction n with
 | zero => intro σ p0 hp0 a0 r h; cases h
 | succ n ih =>
  intro σ p0 hp0 a0 r h
  refine Sat.fn fun Q hQ => ?_
  rw [ref01_reader_tree] at h
  rw [call69]
  conv => arg 1; arg 7; unfold S01.c69 Tryd.f69; simp only [Option.getD_some]
  obtain ⟨v1, e_v1, h⟩ := ob h
  have e_v1c : call Tryd.prog T H (.fn 70) [.ptr p0 0] ((List.set σ p0 (.cells [.p (.sl none 1 (List.map rowI a0.a.Ranks)), .p (.sl none 1 (List.map rowS a0.names)), .p (.lit (.string (bs a0.s))), .p (bv a0.bad)])) ++ [.cells [.p (iv 0), .own 2 []]]) = some (.ret (.p (.tup [])), ((List.set σ p0 (.cells [.p (.sl none 1 (List.map rowI v1.a.Ranks)), .p (.sl none 1 (List.map rowS v1.names)), .p (.lit (.string (bs v1.s))), .p (bv v1.bad)])) ++ [.cells [.p (iv 0), .own 2 []]])) := by have q := spec70 n ((List.set σ p0 (.cells [.p (.sl none 1 (List.map rowI a0.a.Ranks)), .p (.sl none 1 (List.map rowS a0.names)), .p (.lit (.string (bs a0.s))), .p (bv a0.bad)])) ++ [.cells [.p (iv 0), .own 2 []]]) p0 (by simp only [List.length_append, List.length_set, List.length_cons, List.length_nil]; omega) a0 v1 e_v1; first | (simp only [go_sem, hp0, fun k => Nat.lt_add_right k hp0, Nat.not_le_of_lt hp0, fun k => Nat.not_le_of_lt (Nat.lt_add_right k hp0)] at q ⊢; exact q) | exact q
  obtain ⟨v2, e_v2, h⟩ := ob h
  have e_v2c := spec54 n v1.s v2 e_v2
  obtain ⟨v3, e_v3, h⟩ := ob h
  obtain ⟨e_v31, e_v32, e_v33, e_v34⟩ := slcT_some e_v3
  obtain ⟨v4, e_v4, h⟩ := ob h
  have e_v4c := spec85 v1.names v3 v4 e_v4
  by_cases c1 : v4 < 0
  ·have h := iteT h c1
   simp only [go_sem, e_v1c, e_v2c, e_v31, e_v33, ← e_v34, e_v4c, c1, hp0, fun k => Nat.lt_add_right k hp0, Nat.not_le_of_lt hp0, fun k => Nat.not_le_of_lt (Nat.lt_add_right k hp0)]
   injection h with h; subst h
   exact Sat.ok hQ
  ·have h := iteF h c1
   obtain ⟨v5, e_v5, h⟩ := ob h
   obtain ⟨e_v51, e_v52, e_v53, e_v54⟩ := slcF_some e_v5
   obtain ⟨v6, e_v6, h⟩ := ob h
   obtain ⟨e_v6a, e_v6b⟩ := idx_some e_v6
   simp only [go_sem, e_v1c, e_v2c, e_v31, e_v33, ← e_v34, e_v4c, c1, e_v51, e_v52, ← e_v54, e_v6a, e_v6b, hp0, fun k => Nat.lt_add_right k hp0, Nat.not_le_of_lt hp0, fun k => Nat.not_le_of_lt (Nat.lt_add_right k hp0)]
   refine run_rangeI (c := L69_0) (live := [0, 2, 4, 5, 49, 50]) (by simp only [go_sem]) (M := fun i1 (s1 : (List Int) × (List Str) × Str × Bool × (List Tree)) => [(0, .ptr p0 0), (2, .ptr σ.length 0), (4, .p (iv v4)), (5, .ptr (σ.length + 1) 0), (49, .p (iv v6)), (50, .p (iv (i1 : Int)))]) (Z := fun i1 (s1 : (List Int) × (List Str) × Str × Bool × (List Tree)) => ((List.set σ p0 (.cells [.p (.sl none 1 (List.map rowI s1.1)), .p (.sl none 1 (List.map rowS s1.2.1)), .p (.lit (.string (bs s1.2.2.1))), .p (bv s1.2.2.2.1)])) ++ [.cells [.p (iv 0), .own 2 []], .cells [.p (iv v4), .own 2 (List.map row_Tree s1.2.2.2.2)]])) (N := fun (s1 : (List Int) × (List Str) × Str × Bool × (List Tree)) => ⟨[(0, .ptr p0 0), (2, .ptr σ.length 0), (4, .p (iv v4)), (5, .ptr (σ.length + 1) 0)], ((List.set σ p0 (.cells [.p (.sl none 1 (List.map rowI s1.1)), .p (.sl none 1 (List.map rowS s1.2.1)), .p (.lit (.string (bs s1.2.2.1))), .p (bv s1.2.2.2.1)])) ++ [.cells [.p (iv 0), .own 2 []], .cells [.p (iv v4), .own 2 (List.map row_Tree s1.2.2.2.2)]]), [], none, false⟩) h rfl rfl (fun _ _ => rfl) ?_ ?_ ?_
   ·intro s1 h
    try dsimp only at h ⊢
    obtain ⟨v7, e_v7, h⟩ := ob h
    obtain ⟨e_v7a, e_v7b⟩ := idx_some e_v7
    by_cases c2 : 0 < v7
    ·have h := iteT h c2
     obtain ⟨v8, e_v8, h⟩ := ob h
     have e_v8c : call Tryd.prog T H (.fn 90) [.ptr p0 0, .p (.lit (.int .u8 41))] ((List.set σ p0 (.cells [.p (.sl none 1 (List.map rowI s1.1)), .p (.sl none 1 (List.map rowS s1.2.1)), .p (.lit (.string (bs s1.2.2.1))), .p (bv s1.2.2.2.1)])) ++ [.cells [.p (iv 0), .own 2 []], .cells [.p (iv v4), .own 2 (List.map row_Tree s1.2.2.2.2)]]) = some (.ret (.p (.tup [])), ((List.set σ p0 (.cells [.p (.sl none 1 (List.map rowI v8.a.Ranks)), .p (.sl none 1 (List.map rowS v8.names)), .p (.lit (.string (bs v8.s))), .p (bv v8.bad)])) ++ [.cells [.p (iv 0), .own 2 []], .cells [.p (iv v4), .own 2 (List.map row_Tree s1.2.2.2.2)]])) := by have q := spec90 n ((List.set σ p0 (.cells [.p (.sl none 1 (List.map rowI s1.1)), .p (.sl none 1 (List.map rowS s1.2.1)), .p (.lit (.string (bs s1.2.2.1))), .p (bv s1.2.2.2.1)])) ++ [.cells [.p (iv 0), .own 2 []], .cells [.p (iv v4), .own 2 (List.map row_Tree s1.2.2.2.2)]]) p0 (by simp only [List.length_append, List.length_set, List.length_cons, List.length_nil]; omega) (ref01_reader.mk (Alphabet.mk s1.1) s1.2.1 s1.2.2.1 s1.2.2.2.1) 41 v8 e_v8; first | (simp only [go_sem, hp0, fun k => Nat.lt_add_right k hp0, Nat.not_le_of_lt hp0, fun k => Nat.not_le_of_lt (Nat.lt_add_right k hp0)] at q ⊢; exact q) | exact q
     simp only [go_sem, e_v7a, e_v7b, c2, e_v8c, hp0, fun k => Nat.lt_add_right k hp0, Nat.not_le_of_lt hp0, fun k => Nat.not_le_of_lt (Nat.lt_add_right k hp0)]
     injection h with h; subst h
     exact Sat.ok hQ
    ·have h := iteF h c2
     simp only [go_sem, e_v7a, e_v7b, c2, hp0, fun k => Nat.lt_add_right k hp0, Nat.not_le_of_lt hp0, fun k => Nat.not_le_of_lt (Nat.lt_add_right k hp0)]
     injection h with h; subst h
     exact Sat.ok hQ
   ·intro K1 i1 s1 hb1 he1
    try dsimp only
    conv => arg 1; arg 7; unfold L69_0 loopAt S01.c69 Tryd.f69; simp only [loopIn, Option.getD_some, if_true]
    simp only [go_sem, he1, hp0, fun k => Nat.lt_add_right k hp0, Nat.not_le_of_lt hp0, fun k => Nat.not_le_of_lt (Nat.lt_add_right k hp0)]
    exact hb1
   ·intro K1 k1 i1 s1 n1 hR1 hE1 hb1 hi1 hw1 ih1 h
    try dsimp only at h ⊢
    conv => arg 1; arg 7; unfold L69_0 loopAt S01.c69 Tryd.f69; simp only [loopIn, Option.getD_some, if_true]
    by_cases c3 : (i1 : Int) = 0
    ·have h := iteT h c3
     have c3b : ((i1 : Int) == 0) = true := beqT c3
     obtain ⟨v9, e_v9, h⟩ := ob h
     have e_v9c : call Tryd.prog T H (.fn 90) [.ptr p0 0, .p (.lit (.int .u8 40))] ((List.set σ p0 (.cells [.p (.sl none 1 (List.map rowI s1.1)), .p (.sl none 1 (List.map rowS s1.2.1)), .p (.lit (.string (bs s1.2.2.1))), .p (bv s1.2.2.2.1)])) ++ [.cells [.p (iv 0), .own 2 []], .cells [.p (iv v4), .own 2 (List.map row_Tree s1.2.2.2.2)]]) = some (.ret (.p (.tup [])), ((List.set σ p0 (.cells [.p (.sl none 1 (List.map rowI v9.a.Ranks)), .p (.sl none 1 (List.map rowS v9.names)), .p (.lit (.string (bs v9.s))), .p (bv v9.bad)])) ++ [.cells [.p (iv 0), .own 2 []], .cells [.p (iv v4), .own 2 (List.map row_Tree s1.2.2.2.2)]])) := by have q := spec90 n ((List.set σ p0 (.cells [.p (.sl none 1 (List.map rowI s1.1)), .p (.sl none 1 (List.map rowS s1.2.1)), .p (.lit (.string (bs s1.2.2.1))), .p (bv s1.2.2.2.1)])) ++ [.cells [.p (iv 0), .own 2 []], .cells [.p (iv v4), .own 2 (List.map row_Tree s1.2.2.2.2)]]) p0 (by simp only [List.length_append, List.length_set, List.length_cons, List.length_nil]; omega) (ref01_reader.mk (Alphabet.mk s1.1) s1.2.1 s1.2.2.1 s1.2.2.2.1) 40 v9 e_v9; first | (simp only [go_sem, hp0, fun k => Nat.lt_add_right k hp0, Nat.not_le_of_lt hp0, fun k => Nat.not_le_of_lt (Nat.lt_add_right k hp0)] at q ⊢; exact q) | exact q
     by_cases c4 : v9.bad = true
     ·have h := iteT h c4
      simp only [go_sem, hi1, hw1, c3b, e_v9c, c4, hR1, hE1, hp0, fun k => Nat.lt_add_right k hp0, Nat.not_le_of_lt hp0, fun k => Nat.not_le_of_lt (Nat.lt_add_right k hp0)]
      injection h with h; subst h
      exact Sat.ok hQ
     ·have h := iteF h c4
      have c4 := eq_false_of_ne_true c4
      obtain ⟨v10, e_v10, h⟩ := ob h
      have e_v10c : call Tryd.prog T H (.fn 69) [.ptr p0 0] ((List.set σ p0 (.cells [.p (.sl none 1 (List.map rowI v9.a.Ranks)), .p (.sl none 1 (List.map rowS v9.names)), .p (.lit (.string (bs v9.s))), .p (bv false)])) ++ [.cells [.p (iv 0), .own 2 []], .hid]) = some (.ret (.p (.agg [iv v10.1.Sym, .sl none 2 (List.map row_Tree v10.1.Kids)])), ((List.set σ p0 (.cells [.p (.sl none 1 (List.map rowI v10.2.a.Ranks)), .p (.sl none 1 (List.map rowS v10.2.names)), .p (.lit (.string (bs v10.2.s))), .p (bv v10.2.bad)])) ++ [.cells [.p (iv 0), .own 2 []], .hid])) := by have q := ih ((List.set σ p0 (.cells [.p (.sl none 1 (List.map rowI v9.a.Ranks)), .p (.sl none 1 (List.map rowS v9.names)), .p (.lit (.string (bs v9.s))), .p (bv false)])) ++ [.cells [.p (iv 0), .own 2 []], .hid]) p0 (by simp only [List.length_append, List.length_set, List.length_cons, List.length_nil]; omega) (ref01_reader.mk v9.a v9.names v9.s false) v10 e_v10; first | (simp only [go_sem, hp0, fun k => Nat.lt_add_right k hp0, Nat.not_le_of_lt hp0, fun k => Nat.not_le_of_lt (Nat.lt_add_right k hp0)] at q ⊢; exact q) | exact q
      obtain ⟨v11, e_v11, h⟩ := ob h
      have e_v11a : boundOk (s1.2.2.2.2.length + 1) 32 = true := bnd_of (by have := (app_some e_v11).1; simpa using this) (by decide)
      have e_v11b : (List.map row_Tree s1.2.2.2.2) ++ [[iv v10.1.Sym, .sl none 2 (List.map row_Tree v10.1.Kids)]] = List.map row_Tree v11 := by rw [(app_some e_v11).2]; simp [row_Tree_eq]
      by_cases c5 : v10.2.bad = true
      ·have h := iteT h c5
       simp only [go_sem, hi1, hw1, c3b, e_v9c, c4, e_v10c, e_v11a, e_v11b, c5, hR1, hE1, hp0, fun k => Nat.lt_add_right k hp0, Nat.not_le_of_lt hp0, fun k => Nat.not_le_of_lt (Nat.lt_add_right k hp0)]
       injection h with h; subst h
       exact Sat.ok hQ
      ·have h := iteF h c5
       have c5 := eq_false_of_ne_true c5
       simp only [go_sem, hi1, hw1, c3b, e_v9c, c4, e_v10c, e_v11a, e_v11b, c5, hR1, hE1, hp0, fun k => Nat.lt_add_right k hp0, Nat.not_le_of_lt hp0, fun k => Nat.not_le_of_lt (Nat.lt_add_right k hp0)]
       exact ih1 (v10.2.a.Ranks, v10.2.names, v10.2.s, false, v11) h
    ·have h := iteF h c3
     have c3b : ((i1 : Int) == 0) = false := beqF c3
     obtain ⟨v12, e_v12, h⟩ := ob h
     have e_v12c : call Tryd.prog T H (.fn 90) [.ptr p0 0, .p (.lit (.int .u8 44))] ((List.set σ p0 (.cells [.p (.sl none 1 (List.map rowI s1.1)), .p (.sl none 1 (List.map rowS s1.2.1)), .p (.lit (.string (bs s1.2.2.1))), .p (bv s1.2.2.2.1)])) ++ [.cells [.p (iv 0), .own 2 []], .cells [.p (iv v4), .own 2 (List.map row_Tree s1.2.2.2.2)]]) = some (.ret (.p (.tup [])), ((List.set σ p0 (.cells [.p (.sl none 1 (List.map rowI v12.a.Ranks)), .p (.sl none 1 (List.map rowS v12.names)), .p (.lit (.string (bs v12.s))), .p (bv v12.bad)])) ++ [.cells [.p (iv 0), .own 2 []], .cells [.p (iv v4), .own 2 (List.map row_Tree s1.2.2.2.2)]])) := by have q := spec90 n ((List.set σ p0 (.cells [.p (.sl none 1 (List.map rowI s1.1)), .p (.sl none 1 (List.map rowS s1.2.1)), .p (.lit (.string (bs s1.2.2.1))), .p (bv s1.2.2.2.1)])) ++ [.cells [.p (iv 0), .own 2 []], .cells [.p (iv v4), .own 2 (List.map row_Tree s1.2.2.2.2)]]) p0 (by simp only [List.length_append, List.length_set, List.length_cons, List.length_nil]; omega) (ref01_reader.mk (Alphabet.mk s1.1) s1.2.1 s1.2.2.1 s1.2.2.2.1) 44 v12 e_v12; first | (simp only [go_sem, hp0, fun k => Nat.lt_add_right k hp0, Nat.not_le_of_lt hp0, fun k => Nat.not_le_of_lt (Nat.lt_add_right k hp0)] at q ⊢; exact q) | exact q
     by_cases c6 : v12.bad = true
     ·have h := iteT h c6
      simp only [go_sem, hi1, hw1, c3b, e_v12c, c6, hR1, hE1, hp0, fun k => Nat.lt_add_right k hp0, Nat.not_le_of_lt hp0, fun k => Nat.not_le_of_lt (Nat.lt_add_right k hp0)]
      injection h with h; subst h
      exact Sat.ok hQ
     ·have h := iteF h c6
      have c6 := eq_false_of_ne_true c6
      obtain ⟨v13, e_v13, h⟩ := ob h
      have e_v13c : call Tryd.prog T H (.fn 69) [.ptr p0 0] ((List.set σ p0 (.cells [.p (.sl none 1 (List.map rowI v12.a.Ranks)), .p (.sl none 1 (List.map rowS v12.names)), .p (.lit (.string (bs v12.s))), .p (bv false)])) ++ [.cells [.p (iv 0), .own 2 []], .hid]) = some (.ret (.p (.agg [iv v13.1.Sym, .sl none 2 (List.map row_Tree v13.1.Kids)])), ((List.set σ p0 (.cells [.p (.sl none 1 (List.map rowI v13.2.a.Ranks)), .p (.sl none 1 (List.map rowS v13.2.names)), .p (.lit (.string (bs v13.2.s))), .p (bv v13.2.bad)])) ++ [.cells [.p (iv 0), .own 2 []], .hid])) := by have q := ih ((List.set σ p0 (.cells [.p (.sl none 1 (List.map rowI v12.a.Ranks)), .p (.sl none 1 (List.map rowS v12.names)), .p (.lit (.string (bs v12.s))), .p (bv false)])) ++ [.cells [.p (iv 0), .own 2 []], .hid]) p0 (by simp only [List.length_append, List.length_set, List.length_cons, List.length_nil]; omega) (ref01_reader.mk v12.a v12.names v12.s false) v13 e_v13; first | (simp only [go_sem, hp0, fun k => Nat.lt_add_right k hp0, Nat.not_le_of_lt hp0, fun k => Nat.not_le_of_lt (Nat.lt_add_right k hp0)] at q ⊢; exact q) | exact q
      obtain ⟨v14, e_v14, h⟩ := ob h
      have e_v14a : boundOk (s1.2.2.2.2.length + 1) 32 = true := bnd_of (by have := (app_some e_v14).1; simpa using this) (by decide)
      have e_v14b : (List.map row_Tree s1.2.2.2.2) ++ [[iv v13.1.Sym, .sl none 2 (List.map row_Tree v13.1.Kids)]] = List.map row_Tree v14 := by rw [(app_some e_v14).2]; simp [row_Tree_eq]
      by_cases c7 : v13.2.bad = true
      ·have h := iteT h c7
       simp only [go_sem, hi1, hw1, c3b, e_v12c, c6, e_v13c, e_v14a, e_v14b, c7, hR1, hE1, hp0, fun k => Nat.lt_add_right k hp0, Nat.not_le_of_lt hp0, fun k => Nat.not_le_of_lt (Nat.lt_add_right k hp0)]
       injection h with h; subst h
       exact Sat.ok hQ
      ·have h := iteF h c7
       have c7 := eq_false_of_ne_true c7
       simp only [go_sem, hi1, hw1, c3b, e_v12c, c6, e_v13c, e_v14a, e_v14b, c7, hR1, hE1, hp0, fun k => Nat.lt_add_right k hp0, Nat.not_le_of_lt hp0, fun k => Nat.not_le_of_lt (Nat.lt_add_right k hp0)]
       exact ih1 (v13.2.a.Ranks, v13.2.names, v13.2.s, false, v14) h
def ref01_Parse (n : Nat) (a0 : Alphabet) (a1 : List Str) (a2 : Str) : Option (Tree × Int) :=
 (ref01_ValidAlphabet a0).bind fun v1 =>
 if v1 = true then
  (ref01_Names n a1 (a0.Ranks.length : Int)).bind fun v2 =>
  if v2 = true then
   if 16384 < (a2.length : Int) then
    some ((Tree.mk 0 ([] : List Tree)), 3)
   else
    (ref01_reader_tree n (ref01_reader.mk a0 a1 a2 false)).bind fun v3 =>
    (ref01_reader_blanks n v3.2).bind fun v4 =>
    if v4.bad = true then
     some ((Tree.mk 0 ([] : List Tree)), 4)
    else
     if v4.s = ([] : Str) then
      (ref01_Few n v3.1 300).bind fun v5 =>
      if v5 = true then
       some (v3.1, 0)
      else
       some ((Tree.mk 0 ([] : List Tree)), 3)
     else
      some ((Tree.mk 0 ([] : List Tree)), 4)
  else
   some ((Tree.mk 0 ([] : List Tree)), 4)
 else
  some ((Tree.mk 0 ([] : List Tree)), 1)
theorem spec37 (n : Nat) (a0 : Alphabet) (a1 : List Str) (a2 : Str) (r : Tree × Int) (h : ref01_Parse n a0 a1 a2 = some r) :
 call Tryd.prog T H (.fn 37) [.p (.agg [.sl none 1 (List.map rowI a0.Ranks)]), .p (.sl none 1 (List.map rowS a1)), .p (.lit (.string (bs a2)))] [] = some (.ret (.p (.tup [.agg [iv r.1.Sym, .sl none 2 (List.map row_Tree r.1.Kids)], iv r.2])), []) := by
 refine Sat.fn fun Q hQ => ?_
 unfold ref01_Parse at h
 rw [call37]
 conv => arg 1; arg 7; unfold S01.c37 Tryd.f37; simp only [Option.getD_some]
 obtain ⟨v1, e_v1, h⟩ := ob h
 have e_v1c := spec16 a0 v1 e_v1
 by_cases c1 : v1 = true
 ·have h := iteT h c1
  obtain ⟨v2, e_v2, h⟩ := ob h
  have e_v2c : call Tryd.prog T H (.fn 66) [.p (.sl none 1 (List.map rowS a1)), .p (iv (a0.Ranks.length : Int))] [] = some (.ret (.p (bv v2)), []) := spec66 n a1 (a0.Ranks.length : Int) v2 e_v2
  by_cases c2 : v2 = true
  ·have h := iteT h c2
   by_cases c3 : 16384 < (a2.length : Int)
   ·have h := iteT h c3
    simp only [go_sem, e_v1c, c1, e_v2c, c2, c3]
    injection h with h; subst h
    exact Sat.ok hQ
   ·have h := iteF h c3
    obtain ⟨v3, e_v3, h⟩ := ob h
    have e_v3c : call Tryd.prog T H (.fn 69) [.ptr 2 0] [.cells [.p (.sl none 1 (List.map rowI a0.Ranks))], .cells [.p (iv 0), .own 2 []], .cells [.p (.sl none 1 (List.map rowI a0.Ranks)), .p (.sl none 1 (List.map rowS a1)), .p (.lit (.string (bs a2))), .p (bv false)]] = some (.ret (.p (.agg [iv v3.1.Sym, .sl none 2 (List.map row_Tree v3.1.Kids)])), [.cells [.p (.sl none 1 (List.map rowI a0.Ranks))], .cells [.p (iv 0), .own 2 []], .cells [.p (.sl none 1 (List.map rowI v3.2.a.Ranks)), .p (.sl none 1 (List.map rowS v3.2.names)), .p (.lit (.string (bs v3.2.s))), .p (bv v3.2.bad)]]) := by have q := spec69 n [.cells [.p (.sl none 1 (List.map rowI a0.Ranks))], .cells [.p (iv 0), .own 2 []], .cells [.p (.sl none 1 (List.map rowI a0.Ranks)), .p (.sl none 1 (List.map rowS a1)), .p (.lit (.string (bs a2))), .p (bv false)]] 2 (by simp only [List.length_append, List.length_set, List.length_cons, List.length_nil]; omega) (ref01_reader.mk a0 a1 a2 false) v3 e_v3; first | (simp only [go_sem] at q ⊢; exact q) | exact q
    obtain ⟨v4, e_v4, h⟩ := ob h
    have e_v4c : call Tryd.prog T H (.fn 70) [.ptr 2 0] [.cells [.p (.sl none 1 (List.map rowI a0.Ranks))], .cells [.p (iv 0), .own 2 []], .cells [.p (.sl none 1 (List.map rowI v3.2.a.Ranks)), .p (.sl none 1 (List.map rowS v3.2.names)), .p (.lit (.string (bs v3.2.s))), .p (bv v3.2.bad)], .cells [.p (iv v3.1.Sym), .p (.sl none 2 (List.map row_Tree v3.1.Kids))]] = some (.ret (.p (.tup [])), [.cells [.p (.sl none 1 (List.map rowI a0.Ranks))], .cells [.p (iv 0), .own 2 []], .cells [.p (.sl none 1 (List.map rowI v4.a.Ranks)), .p (.sl none 1 (List.map rowS v4.names)), .p (.lit (.string (bs v4.s))), .p (bv v4.bad)], .cells [.p (iv v3.1.Sym), .p (.sl none 2 (List.map row_Tree v3.1.Kids))]]) := by have q := spec70 n [.cells [.p (.sl none 1 (List.map rowI a0.Ranks))], .cells [.p (iv 0), .own 2 []], .cells [.p (.sl none 1 (List.map rowI v3.2.a.Ranks)), .p (.sl none 1 (List.map rowS v3.2.names)), .p (.lit (.string (bs v3.2.s))), .p (bv v3.2.bad)], .cells [.p (iv v3.1.Sym), .p (.sl none 2 (List.map row_Tree v3.1.Kids))]] 2 (by simp only [List.length_append, List.length_set, List.length_cons, List.length_nil]; omega) v3.2 v4 e_v4; first | (simp only [go_sem] at q ⊢; exact q) | exact q
    by_cases c4 : v4.bad = true
    ·have h := iteT h c4
     simp only [go_sem, e_v1c, c1, e_v2c, c2, c3, e_v3c, e_v4c, c4]
     injection h with h; subst h
     exact Sat.ok hQ
    ·have h := iteF h c4
     have c4 := eq_false_of_ne_true c4
     by_cases c5 : v4.s = ([] : Str)
     ·have h := iteT h c5
      have c5b : (v4.s == ([] : Str)) = true := beqT c5
      obtain ⟨v5, e_v5, h⟩ := ob h
      have e_v5c := spec38 n v3.1 300 v5 e_v5
      by_cases c6 : v5 = true
      ·have h := iteT h c6
       simp only [go_sem, e_v1c, c1, e_v2c, c2, c3, e_v3c, e_v4c, c4, c5b, e_v5c, c6]
       injection h with h; subst h
       exact Sat.ok hQ
      ·have h := iteF h c6
       have c6 := eq_false_of_ne_true c6
       simp only [go_sem, e_v1c, c1, e_v2c, c2, c3, e_v3c, e_v4c, c4, c5b, e_v5c, c6]
       injection h with h; subst h
       exact Sat.ok hQ
     ·have h := iteF h c5
      have c5b : (v4.s == ([] : Str)) = false := beqF c5
      simp only [go_sem, e_v1c, c1, e_v2c, c2, c3, e_v3c, e_v4c, c4, c5b]
      injection h with h; subst h
      exact Sat.ok hQ
  ·have h := iteF h c2
   have c2 := eq_false_of_ne_true c2
   simp only [go_sem, e_v1c, c1, e_v2c, c2]
   injection h with h; subst h
   exact Sat.ok hQ
 ·have h := iteF h c1
  have c1 := eq_false_of_ne_true c1
  simp only [go_sem, e_v1c, c1]
  injection h with h; subst h
  exact Sat.ok hQ
end Go.AM.S01

namespace Go.AM.S01
open Go Go.Proofs Go.AM
set_option maxRecDepth 100000
set_option maxHeartbeats 4000000
set_option linter.unusedVariables false
theorem Sat.callrange {n : Nat} {K : Ex × S → Option (Out × List AObj)} {Q : Out × List AObj → Prop} {s : S} {d : Option Nat} {A : Option (Out × List AObj)} (h : Sat A (fun y => Sat (rangeK n K (some (endCall s d y.2 y.1))) Q)) :
 Sat (rangeK n K (callR s d A)) Q := by
 obtain ⟨⟨o, σ⟩, rfl, h2⟩ := h
 exact h2
abbrev PS := Option (Nat × List Int × Nat)
abbrev OS := Option (Nat × List (List Int))
def pv : PS → AV
 | none => .nms 7 1
 | some (g, _, n) => .ms 7 g 1 0 n
def po : PS → AObj
 | none => .dead
 | some (g, l, _) => .arr g 1 (l.map (rowA rowI))
def ov : OS → AV
 | none => .nms 2 1
 | some (g, l) => .ms 2 g 1 0 l.length
def oo : OS → AObj
 | none => .dead
 | some (g, l) => .arr g 1 (l.map (rowA (rowL 1 rowI)))
def pcl : PS → Option (List Int)
 | none => some []
 | some (_, l, n) => if n ≤ l.length ∧ n * 8 ≤ 70368744177664 then some (l.take n) else none
theorem spec56n (id : Nat) (σ : List AObj) : call Tryd.prog T H (.fn 56) [.nms id 1] σ = some (.ret (.p (.sl none 1 [])), σ) := by
 refine Sat.fn fun Q hQ => ?_
 rw [call56]
 conv => arg 1; arg 7; unfold S01.c56 Tryd.f56; simp only [Option.getD_some]
 simp only [go_sem]
 exact Sat.ok hQ
theorem allRows_rowI (l : List Int) : allRows (l.map (rowA rowI)) = some (l.map rowI) := by
 induction l with
 | nil => rfl
 | cons a l ih => rw [List.map_cons, allRows, ih]; rfl
theorem spec56m {id g n : Nat} {l : List Int} {σ : List AObj} (h : σ[id]? = some (.arr g 1 (l.map (rowA rowI)))) (hn : n ≤ l.length) (hb : n * 8 ≤ 70368744177664) : call Tryd.prog T H (.fn 56) [.ms id g 1 0 n] σ = some (.ret (.p (.sl none 1 ((l.take n).map rowI))), σ) := by
 refine Sat.fn fun Q hQ => ?_
 have e1 : boundOk n 8 = true := bnd_of hb (by decide)
 have e2 : allRows (List.take n (l.map (rowA rowI))) = some ((l.take n).map rowI) := by rw [← List.map_take, allRows_rowI]
 have e3 : ((l.take n).map rowI).length = n := by rw [List.length_map, List.length_take]; omega
 rw [call56]
 conv => arg 1; arg 7; unfold S01.c56 Tryd.f56; simp only [Option.getD_some]
 have e4 : min n l.length = n := Nat.min_eq_left hn
 simp only [go_sem, h, hn, e1, allRows_rowI, List.length_map, List.length_take, e4]
 exact Sat.ok hQ
end Go.AM.S01

namespace Go.AM.S01
open Go Go.Proofs Go.AM
set_option maxRecDepth 100000
set_option maxHeartbeats 4000000
set_option linter.unusedVariables false
def oapp : OS → List Int → Option OS
 | none, x => some (some (1, [x]))
 | some (g, l), x => (app 24 l [x]).bind fun l' => some (some (g + 1, l'))
theorem set_back {α : Type} {l : List α} {i : Nat} {a : α} (h : l[i]? = some a) : l.set i a = l := by
 apply List.ext_getElem?
 intro j
 by_cases e : i = j
 ·subst e
  have := (List.getElem?_eq_some_iff.mp h).1
  rw [List.getElem?_set_self this, h]
 ·rw [List.getElem?_set_ne e]
theorem yield27 {E : Env} (hE : get E 6 = .ptr 3 0) {ρ : List AObj} (hl : 10 ≤ ρ.length) (h5 : ρ[5]? = some (.loop 0 none 22 27 E [14, 15] A27_0 B27_0)) (o o1 : OS) (p : PS) (h2 : ρ[2]? = some (oo o)) (h3 : ρ[3]? = some (.cells [ov o])) (h7 : ρ[7]? = some (po p)) (t : Tree) {x : List Int} (ex : pcl p = some x) (e1 : oapp o x = some o1) :
 call Tryd.prog T H (.yld 5) [pv p, .p (.agg [iv t.Sym, .sl none 2 (List.map row_Tree t.Kids)])] ρ = some (.ret (.p (bv true)), (ρ.set 2 (oo o1)).set 3 (.cells [ov o1])) := by
 refine Sat.fn fun Q hQ => ?_
 have a2 : ∀ y, (ρ.set 5 y)[2]? = some (oo o) := fun y => by rw [List.getElem?_set_ne (by decide)]; exact h2
 have a3 : ∀ y, (ρ.set 5 y)[3]? = some (.cells [ov o]) := fun y => by rw [List.getElem?_set_ne (by decide)]; exact h3
 have a7 : ∀ y, (ρ.set 5 y)[7]? = some (po p) := fun y => by rw [List.getElem?_set_ne (by decide)]; exact h7
 have b3 : ∀ y z, ((ρ.set 5 y).set 2 z)[3]? = some (.cells [ov o]) := fun y z => by rw [List.getElem?_set_ne (by decide)]; exact a3 y
 have b5 : ∀ y z u, (((ρ.set 5 y).set 2 z).set 3 u)[5]? = some y := fun y z u => by rw [List.getElem?_set_ne (by decide), List.getElem?_set_ne (by decide), List.getElem?_set_self (by omega)]
 have b6 : ∀ y z u, (((ρ.set 5 y).set 2 z).set 3 u).set 5 (.loop 0 none 22 27 E [14, 15] A27_0 B27_0) = (ρ.set 2 z).set 3 u := fun y z u => by
  rw [List.set_comm _ _ (by decide : 3 ≠ 5), List.set_comm _ _ (by decide : 2 ≠ 5), List.set_set, set_back h5]
 have b7 : ∀ z u, ((ρ.set 2 z).set 3 u).take ρ.length = (ρ.set 2 z).set 3 u := fun z u => List.take_of_length_le (by simp)
 have cl : ∀ y, call Tryd.prog T H (.fn 56) [pv p] (ρ.set 5 y) = some (.ret (.p (.sl none 1 (x.map rowI))), ρ.set 5 y) := fun y => by
  cases p with
  | none => injection ex with ex; subst ex; exact spec56n 7 _
  | some q =>
   obtain ⟨g, l, n⟩ := q
   unfold pcl at ex
   simp only [] at ex
   split at ex
   ·rename_i hc
    injection ex with ex; subst ex
    exact spec56m (a7 y) hc.1 hc.2
   ·cases ex
 have bk : boundOk 1 24 = true := by decide
 rcases o with _ | ⟨g', l'⟩
 ·injection e1 with e1; subst e1
  rcases p with _ | ⟨g, l, n⟩
  ·simp only [pv] at cl
   simp only [ov, oo] at a2 a3 b3
   rw [call_yld (h := h5) (hok := yo27_0) (hl := rfl)]
   conv => arg 1; arg 7; unfold A27_0 rangeA S01.c27 Tryd.f27; simp only [rangeIn, Option.getD_some, if_true]
   simp only [go_sem, asgK, setSt, h5, pv]
   conv => arg 1; arg 7; unfold B27_0 rangeB S01.c27 Tryd.f27; simp only [rangeIn, Option.getD_some, if_true]
   simp only [go_sem, hE, a2, a3, b3, b5, b6, b7, cl, bk, yldK, endYield, yldRet, setSt, List.length_set]
   exact Sat.ok (by simpa only [go_sem, ov, oo, List.map_cons, List.map_nil] using hQ)
  ·simp only [pv] at cl
   simp only [ov, oo] at a2 a3 b3
   rw [call_yld (h := h5) (hok := yo27_0) (hl := rfl)]
   conv => arg 1; arg 7; unfold A27_0 rangeA S01.c27 Tryd.f27; simp only [rangeIn, Option.getD_some, if_true]
   simp only [go_sem, asgK, setSt, h5, pv]
   conv => arg 1; arg 7; unfold B27_0 rangeB S01.c27 Tryd.f27; simp only [rangeIn, Option.getD_some, if_true]
   simp only [go_sem, hE, a2, a3, b3, b5, b6, b7, cl, bk, yldK, endYield, yldRet, setSt, List.length_set]
   exact Sat.ok (by simpa only [go_sem, ov, oo, List.map_cons, List.map_nil] using hQ)
 ·obtain ⟨l2, e2, e1⟩ := ob e1
  injection e1 with e1; subst e1
  have e2a : boundOk (l'.length + 1) 24 = true := bnd_of (by have := (app_some e2).1; simpa using this) (by decide)
  have e2b := (app_some e2).2
  have e2c : l'.map (rowA (rowL 1 rowI)) ++ [[AV.p (.sl none 1 (x.map rowI))]] = l2.map (rowA (rowL 1 rowI)) := by rw [e2b]; simp [rowA, rowL]
  have e2d : l'.length + 1 = l2.length := by rw [e2b]; simp
  have e2f : (l'.map (rowA (rowL 1 rowI))).take l'.length = l'.map (rowA (rowL 1 rowI)) := List.take_of_length_le (by simp)
  have e2g : boundOk l2.length 24 = true := by rw [← e2d]; exact e2a
  rcases p with _ | ⟨g, l, n⟩
  ·simp only [pv] at cl
   simp only [ov, oo] at a2 a3 b3
   rw [call_yld (h := h5) (hok := yo27_0) (hl := rfl)]
   conv => arg 1; arg 7; unfold A27_0 rangeA S01.c27 Tryd.f27; simp only [rangeIn, Option.getD_some, if_true]
   simp only [go_sem, asgK, setSt, h5, pv]
   conv => arg 1; arg 7; unfold B27_0 rangeB S01.c27 Tryd.f27; simp only [rangeIn, Option.getD_some, if_true]
   simp only [go_sem, hE, a2, a3, b3, b5, b6, b7, cl, e2a, e2c, e2d, e2f, e2g, yldK, endYield, yldRet, setSt, List.length_set]
   exact Sat.ok (by simpa only [go_sem, ov, oo, List.map_cons, List.map_nil] using hQ)
  ·simp only [pv] at cl
   simp only [ov, oo] at a2 a3 b3
   rw [call_yld (h := h5) (hok := yo27_0) (hl := rfl)]
   conv => arg 1; arg 7; unfold A27_0 rangeA S01.c27 Tryd.f27; simp only [rangeIn, Option.getD_some, if_true]
   simp only [go_sem, asgK, setSt, h5, pv]
   conv => arg 1; arg 7; unfold B27_0 rangeB S01.c27 Tryd.f27; simp only [rangeIn, Option.getD_some, if_true]
   simp only [go_sem, hE, a2, a3, b3, b5, b6, b7, cl, e2a, e2c, e2d, e2f, e2g, yldK, endYield, yldRet, setSt, List.length_set]
   exact Sat.ok (by simpa only [go_sem, ov, oo, List.map_cons, List.map_nil] using hQ)
end Go.AM.S01

namespace Go.AM.S01
open Go Go.Proofs Go.AM
set_option maxRecDepth 100000
set_option maxHeartbeats 4000000
set_option linter.unusedVariables false
structure WF (E : Env) (σ : List AObj) : Prop where
 len : 10 ≤ σ.length
 o5 : σ[5]? = some (.loop 0 none 22 27 E [14, 15] A27_0 B27_0)
 o6 : σ[6]? = some (.cells [.yld 5])
 o9 : σ[9]? = some (.cells [.fn 83 [.ptr 6 0, .ptr 8 0, .ptr 9 0]])
def wS (σ : List AObj) (s : OS × PS) : List AObj := (((σ.set 2 (oo s.1)).set 3 (.cells [ov s.1])).set 7 (po s.2)).set 8 (.cells [pv s.2])
theorem wS_len (σ : List AObj) (s : OS × PS) : (wS σ s).length = σ.length := by simp [wS]
theorem wS_get (σ : List AObj) (s : OS × PS) {i : Nat} (h : i ≠ 2 ∧ i ≠ 3 ∧ i ≠ 7 ∧ i ≠ 8) : (wS σ s)[i]? = σ[i]? := by
 unfold wS; rw [List.getElem?_set_ne (by omega), List.getElem?_set_ne (by omega), List.getElem?_set_ne (by omega), List.getElem?_set_ne (by omega)]
theorem wS_2 {σ : List AObj} (s : OS × PS) (h : 10 ≤ σ.length) : (wS σ s)[2]? = some (oo s.1) := by
 unfold wS; rw [List.getElem?_set_ne (by decide), List.getElem?_set_ne (by decide), List.getElem?_set_ne (by decide), List.getElem?_set_self (by omega)]
theorem wS_3 {σ : List AObj} (s : OS × PS) (h : 10 ≤ σ.length) : (wS σ s)[3]? = some (.cells [ov s.1]) := by
 unfold wS; rw [List.getElem?_set_ne (by decide), List.getElem?_set_ne (by decide), List.getElem?_set_self (by simp; omega)]
theorem wS_7 {σ : List AObj} (s : OS × PS) (h : 10 ≤ σ.length) : (wS σ s)[7]? = some (po s.2) := by
 unfold wS; rw [List.getElem?_set_ne (by decide), List.getElem?_set_self (by simp; omega)]
theorem wS_8 {σ : List AObj} (s : OS × PS) (h : 10 ≤ σ.length) : (wS σ s)[8]? = some (.cells [pv s.2]) := by
 unfold wS; rw [List.getElem?_set_self (by simp; omega)]
theorem wS_out (σ : List AObj) (s : OS × PS) (o : OS) : ((wS σ s).set 2 (oo o)).set 3 (.cells [ov o]) = wS σ (o, s.2) := by
 unfold wS
 rw [List.set_comm _ _ (by decide : 8 ≠ 2), List.set_comm _ _ (by decide : 7 ≠ 2), List.set_comm _ _ (by decide : 3 ≠ 2), List.set_set, List.set_comm _ _ (by decide : 8 ≠ 3), List.set_comm _ _ (by decide : 7 ≠ 3), List.set_set]
theorem wS_pos (σ : List AObj) (s : OS × PS) (p : PS) : ((wS σ s).set 7 (po p)).set 8 (.cells [pv p]) = wS σ (s.1, p) := by
 unfold wS
 rw [List.set_comm _ _ (by decide : 8 ≠ 7), List.set_set, List.set_set]
theorem wS_cell (σ : List AObj) (o : OS) (p q : PS) (h : po p = po q) : (wS σ (o, p)).set 8 (.cells [pv q]) = wS σ (o, q) := by
 unfold wS
 simp only []
 rw [List.set_set, h]
theorem wS_app {σ : List AObj} (s : OS × PS) (h : 10 ≤ σ.length) (l : List AObj) : wS σ s ++ l = wS (σ ++ l) s := by
 unfold wS
 rw [List.set_append_left _ _ (by omega), List.set_append_left _ _ (by simp; omega), List.set_append_left _ _ (by simp; omega), List.set_append_left _ _ (by simp; omega)]
theorem WF.app {E : Env} {σ : List AObj} (h : WF E σ) (l : List AObj) : WF E (σ ++ l) where
 len := by rw [List.length_append]; have := h.len; omega
 o5 := by rw [List.getElem?_append_left (by have := h.len; omega)]; exact h.o5
 o6 := by rw [List.getElem?_append_left (by have := h.len; omega)]; exact h.o6
 o9 := by rw [List.getElem?_append_left (by have := h.len; omega)]; exact h.o9
def posApp : PS → Int → Option PS
 | none, i => some (some (1, [i], 1))
 | some (g, l, n), i => if n ≤ l.length ∧ (n + 1) * 8 ≤ 70368744177664 then some (some (g + 1, l.take n ++ [i], n + 1)) else none
def posCut : PS → Option PS
 | some (g, l, n) => if 1 ≤ n ∧ n < 4611686018427387904 then some (some (g, l, n - 1)) else none
 | none => none
def treeW : Nat → Tree → OS × PS → Option (OS × PS)
 | 0, _, _ => none
 | n + 1, t, s =>
  (pcl s.2).bind fun x => (oapp s.1 x).bind fun o1 =>
  rangeL t.Kids (o1, s.2) (fun _ i x1 s1 n1 =>
   (posApp s1.2 (i : Int)).bind fun p1 => (treeW n x1 (s1.1, p1)).bind fun v => (posCut v.2).bind fun p2 => n1 (v.1, p2)) fun s1 => some s1
theorem spec83 {E : Env} (hE : get E 6 = .ptr 3 0) : ∀ (n : Nat) (σ : List AObj) (w : WF E σ) (t : Tree) (s r : OS × PS), treeW n t s = some r →
 call Tryd.prog T H (.fn 83) [.p (.agg [iv t.Sym, .sl none 2 (List.map row_Tree t.Kids)]), .ptr 6 0, .ptr 8 0, .ptr 9 0] (wS σ s) = some (.ret (.p (bv true)), wS σ r) := by
 intro n
 induction n with
 | zero => intro σ w t s r h; cases h
 | succ n ih =>
  intro σ w t s r h
  refine Sat.fn fun Q hQ => ?_
  rw [treeW] at h
  obtain ⟨x, ex, h⟩ := ob h
  obtain ⟨o1, eo, h⟩ := ob h
  have hl := w.len
  have b8n : ∀ s, (wS σ s)[8]? = some (.cells [pv s.2]) := fun s => wS_8 _ hl
  have b8 : ∀ s l, (wS σ s ++ l)[8]? = some (.cells [pv s.2]) := fun s l => by rw [List.getElem?_append_left (by rw [wS_len]; omega), wS_8 _ hl]
  have b7 : ∀ s l, (wS σ s ++ l)[7]? = some (po s.2) := fun s l => by rw [List.getElem?_append_left (by rw [wS_len]; omega), wS_7 _ hl]
  have b87 : ∀ s l z, ((wS σ s ++ l).set 7 z)[8]? = some (.cells [pv s.2]) := fun s l z => by rw [List.getElem?_set_ne (by decide), b8]
  have b6 : ∀ s l, (wS σ s ++ l)[6]? = some (.cells [.yld 5]) := fun s l => by rw [List.getElem?_append_left (by rw [wS_len]; omega), wS_get _ _ (by decide), w.o6]
  have b9 : ∀ s l, (wS σ s ++ l)[9]? = some (.cells [.fn 83 [.ptr 6 0, .ptr 8 0, .ptr 9 0]]) := fun s l => by rw [List.getElem?_append_left (by rw [wS_len]; omega), wS_get _ _ (by decide), w.o9]
  have g0 : ∀ s l, (wS σ s ++ l)[σ.length]? = l[0]? := fun s l => sA0 (wS_len σ s)
  have gk : ∀ s l k, (wS σ s ++ l)[σ.length + k]? = l[k]? := fun s l k => sAK (wS_len σ s)
  have s0 : ∀ s l y, (wS σ s ++ l).set σ.length y = wS σ s ++ l.set 0 y := fun s l y => sS0 (wS_len σ s)
  have sk : ∀ s l y k, (wS σ s ++ l).set (σ.length + k) y = wS σ s ++ l.set k y := fun s l y k => sSK (wS_len σ s)
  have t0 : ∀ s l, (wS σ s ++ l).take σ.length = wS σ s := fun s l => sT0 (wS_len σ s)
  have tk : ∀ s l k, (wS σ s ++ l).take (σ.length + k) = wS σ s ++ l.take k := fun s l k => sTK (wS_len σ s)
  have tx : ∀ s, (wS σ s).take σ.length = wS σ s := fun s => sTX (wS_len σ s)
  have cp : copyA (pv s.2) = pv s.2 := by cases s.2 <;> rfl
  have yy : ∀ l, call Tryd.prog T H (.yld 5) [pv s.2, .p (.agg [iv t.Sym, .sl none 2 (List.map row_Tree t.Kids)])] (wS σ s ++ l) = some (.ret (.p (bv true)), wS σ (o1, s.2) ++ l) := fun l => by
   have q := yield27 hE (ρ := wS σ s ++ l) (by rw [List.length_append, wS_len]; omega) (by rw [List.getElem?_append_left (by rw [wS_len]; omega), wS_get _ _ (by decide), w.o5]) s.1 o1 s.2 (by rw [List.getElem?_append_left (by rw [wS_len]; omega), wS_2 _ hl]) (by rw [List.getElem?_append_left (by rw [wS_len]; omega), wS_3 _ hl]) (by rw [List.getElem?_append_left (by rw [wS_len]; omega), wS_7 _ hl]) t ex eo
   rw [List.set_append_left _ _ (by rw [wS_len]; omega), List.set_append_left _ _ (by rw [List.length_set, wS_len]; omega), wS_out] at q
   exact q
  rw [call83]
  conv => arg 1; arg 7; unfold S01.c83 Tryd.f83; simp only [Option.getD_some]
  have loop : ∀ (K : Ex × S → Option (Out × List AObj)) (e0 : Env), maskEnv e0 [2, 3, 14, 15, 16] = [(2, .ptr 8 0), (3, .ptr 9 0), (14, .p (.sl none 2 (List.map row_Tree t.Kids))), (15, .p (iv (t.Kids.length : Int))), (16, .p (iv 0))] →
   (∀ s1, some s1 = some r → Sat (K (.exit 0, ⟨[], wS σ s1 ++ [.cells [.p (iv t.Sym), .p (.sl none 2 (List.map row_Tree t.Kids))]], [], none, false⟩)) Q) →
   Sat (run Tryd.prog T H 83 σ.length 0 (.loop L83_0) ⟨e0, wS σ (o1, s.2) ++ [.cells [.p (iv t.Sym), .p (.sl none 2 (List.map row_Tree t.Kids))]], [], none, false⟩ K) Q := by
   intro K e0 h0 hK
   refine run_rangeL (c := L83_0) (live := [2, 3, 14, 15, 16]) (by simp only [go_sem]) (M := fun i1 (s1 : OS × PS) => [(2, .ptr 8 0), (3, .ptr 9 0), (14, .p (.sl none 2 (List.map row_Tree t.Kids))), (15, .p (iv (t.Kids.length : Int))), (16, .p (iv (i1 : Int)))]) (Z := fun i1 s1 => wS σ s1 ++ [.cells [.p (iv t.Sym), .p (.sl none 2 (List.map row_Tree t.Kids))]]) (N := fun s1 => ⟨[], wS σ s1 ++ [.cells [.p (iv t.Sym), .p (.sl none 2 (List.map row_Tree t.Kids))]], [], none, false⟩) h h0 rfl (fun _ _ => rfl) ?_ ?_ ?_
   ·intro s1 h
    exact hK s1 h
   ·intro K1 s1 hb1 he1
    try dsimp only
    conv => arg 1; arg 7; unfold L83_0 loopAt S01.c83 Tryd.f83; simp only [loopIn, Option.getD_some, if_true]
    simp only [go_sem, he1, wS_len, b8n, b8, b7, b6, b9, g0, gk, s0, sk, t0, tk, tx]
    exact hb1
   ·intro K1 k1 i1 x1 s1 n1 hR1 hE1 hb1 hx1 hi1 hw1 ih1 h
    try dsimp only at h ⊢
    obtain ⟨p1, ep1, h⟩ := ob h
    obtain ⟨v, ev, h⟩ := ob h
    obtain ⟨p2, ep2, hfin⟩ := ob h
    have c9 : ∀ l, call Tryd.prog T H (.fn 83) [.p (.agg [iv x1.Sym, .sl none 2 (List.map row_Tree x1.Kids)]), .ptr 6 0, .ptr 8 0, .ptr 9 0] (wS σ (s1.1, p1) ++ l) = some (.ret (.p (bv true)), wS σ v ++ l) := fun l => by
     have q := ih (σ ++ l) (w.app l) x1 (s1.1, p1) v ev
     rw [← wS_app _ hl, ← wS_app _ hl] at q
     exact q
    have hp : ∀ l, ((wS σ s1 ++ l).set 7 (po p1)).set 8 (.cells [pv p1]) = wS σ (s1.1, p1) ++ l := fun l => by
     rw [List.set_append_left _ _ (by rw [wS_len]; omega), List.set_append_left _ _ (by rw [List.length_set, wS_len]; omega), wS_pos]
    have hc : ∀ l, (wS σ v ++ l).set 8 (.cells [pv p2]) = wS σ (v.1, p2) ++ l := fun l => by
     rw [List.set_append_left _ _ (by rw [wS_len]; omega)]
     congr 1
     obtain ⟨v1, v2⟩ := v
     refine wS_cell σ v1 v2 p2 ?_
     unfold posCut at ep2
     split at ep2
     ·split at ep2
      ·injection ep2 with ep2; subst ep2; rename_i e _; simp only [] at e; rw [e]; rfl
      ·cases ep2
     ·cases ep2
    conv => arg 1; arg 7; unfold L83_0 loopAt S01.c83 Tryd.f83; simp only [loopIn, Option.getD_some, if_true]
    obtain ⟨vo, vp⟩ := v
    rcases vp with _ | ⟨g2, l2, n2⟩
    ·cases ep2
    unfold posCut at ep2
    simp only [] at ep2
    split at ep2
    case isFalse => cases ep2
    rename_i hn2
    injection ep2 with ep2; subst ep2
    have hw2 : IntKind.i64.wrap ((n2 : Int) - 1) = ((n2 - 1 : Nat) : Int) := by rw [wrapN] <;> omega
    have hle2 : n2 - 1 ≤ n2 := Nat.sub_le _ _
    have l8 : 8 < σ.length + 1 := by omega
    have l9 : 9 < σ.length + 1 := by omega
    simp only [pv] at hc b8
    obtain ⟨so, sp⟩ := s1
    rcases sp with _ | ⟨g, l, nn⟩
    ·injection ep1 with ep1; subst ep1
     have bk : boundOk 1 8 = true := by decide
     simp only [go_sem, po, pv, List.map_cons, List.map_nil, rowA] at hp
     have f8 : ∀ l, (wS σ (so, none) ++ l)[8]? = some (.cells [.nms 7 1]) := fun l => by rw [List.getElem?_append_left (by rw [wS_len]; omega), wS_8 _ hl]; rfl
     have f7 : ∀ l, (wS σ (so, none) ++ l)[7]? = some .dead := fun l => by rw [List.getElem?_append_left (by rw [wS_len]; omega), wS_7 _ hl]; rfl
     have f87 : ∀ l z, ((wS σ (so, none) ++ l).set 7 z)[8]? = some (.cells [.nms 7 1]) := fun l z => by rw [List.getElem?_set_ne (by decide), f8]
     have v8 : ∀ l, (wS σ (vo, some (g2, l2, n2)) ++ l)[8]? = some (.cells [.ms 7 g2 1 0 n2]) := fun l => by rw [List.getElem?_append_left (by rw [wS_len]; omega), wS_8 _ hl]; rfl
     simp only [go_sem, hx1, hi1, hw1, hw2, hle2, bk, f8, f7, f87, hp, c9, v8, hc, hR1, hE1, wS_len, b6, b9, g0, gk, s0, sk, t0, tk, tx, l8, l9, Nat.sub_zero]
     exact ih1 _ hfin
    ·unfold posApp at ep1
     simp only [] at ep1
     split at ep1
     case isFalse => cases ep1
     rename_i hn1
     injection ep1 with ep1; subst ep1
     have bk : boundOk (nn + 1) 8 = true := bnd_of hn1.2 (by decide)
     have hn3 := hn1.1
     simp only [po, pv] at hp
     have em : List.map (rowA rowI) (List.take nn l) ++ [[AV.p (iv (i1 : Int))]] = List.map (rowA rowI) (List.take nn l ++ [(i1 : Int)]) := by rw [List.map_append]; rfl
     have f8 : ∀ k, (wS σ (so, some (g, l, nn)) ++ k)[8]? = some (.cells [.ms 7 g 1 0 nn]) := fun k => by rw [List.getElem?_append_left (by rw [wS_len]; omega), wS_8 _ hl]; rfl
     have f7 : ∀ k, (wS σ (so, some (g, l, nn)) ++ k)[7]? = some (.arr g 1 (l.map (rowA rowI))) := fun k => by rw [List.getElem?_append_left (by rw [wS_len]; omega), wS_7 _ hl]; rfl
     have f87 : ∀ k z, ((wS σ (so, some (g, l, nn)) ++ k).set 7 z)[8]? = some (.cells [.ms 7 g 1 0 nn]) := fun k z => by rw [List.getElem?_set_ne (by decide), f8]
     have v8 : ∀ k, (wS σ (vo, some (g2, l2, n2)) ++ k)[8]? = some (.cells [.ms 7 g2 1 0 n2]) := fun k => by rw [List.getElem?_append_left (by rw [wS_len]; omega), wS_8 _ hl]; rfl
     simp only [go_sem, hx1, hi1, hw1, hw2, hle2, hn3, bk, f8, f7, f87, em, hp, c9, v8, hc, hR1, hE1, wS_len, b6, b9, g0, gk, s0, sk, t0, tk, tx, List.length_map, l8, l9, Nat.sub_zero]
     exact ih1 _ hfin
  obtain ⟨so, sp⟩ := s
  rcases sp with _ | ⟨g, l, nn⟩
  ·simp only [pv] at yy
   have f8 : ∀ k, (wS σ (so, none) ++ k)[8]? = some (.cells [.nms 7 1]) := fun k => by rw [List.getElem?_append_left (by rw [wS_len]; omega), wS_8 _ hl]; rfl
   simp only [go_sem, wS_len, f8, b6, b9, g0, gk, s0, sk, t0, tk, tx, yy]
   refine loop _ _ rfl ?_
   intro s1 hs
   injection hs with hs; subst hs
   simp only [go_sem, wS_len, b6, b9, g0, gk, s0, sk, t0, tk, tx]
   exact Sat.ok hQ
  ·simp only [pv] at yy
   have f8 : ∀ k, (wS σ (so, some (g, l, nn)) ++ k)[8]? = some (.cells [.ms 7 g 1 0 nn]) := fun k => by rw [List.getElem?_append_left (by rw [wS_len]; omega), wS_8 _ hl]; rfl
   simp only [go_sem, wS_len, f8, b6, b9, g0, gk, s0, sk, t0, tk, tx, yy]
   refine loop _ _ rfl ?_
   intro s1 hs
   injection hs with hs; subst hs
   simp only [go_sem, wS_len, b6, b9, g0, gk, s0, sk, t0, tk, tx]
   exact Sat.ok hQ
end Go.AM.S01

namespace Go.AM.S01
open Go Go.Proofs Go.AM
set_option maxRecDepth 100000
set_option maxHeartbeats 4000000
set_option linter.unusedVariables false
def tree_Positions (n : Nat) (a : Alphabet) (t : Tree) : Option (List (List Int) × Int) :=
 (tree_Valid n a t).bind fun v1 =>
 if v1 = true then (treeW n t (none, none)).bind fun v => (v.1).bind fun w => some (w.2, 0)
 else some ([], 1)
theorem spec27 (n : Nat) (a : Alphabet) (t : Tree) (r : List (List Int) × Int) (h : tree_Positions n a t = some r) :
 call Tryd.prog T H (.fn 27) [.p (.agg [.sl none 1 (List.map rowI a.Ranks)]), .p (.agg [iv t.Sym, .sl none 2 (List.map row_Tree t.Kids)])] [] = some (.ret (.p (.tup [.sl none 1 (List.map (rowL 1 rowI) r.1), iv r.2])), []) := by
 refine Sat.fn fun Q hQ => ?_
 unfold tree_Positions at h
 obtain ⟨v1, e_v1, h⟩ := ob h
 have e_v1c := spec17 n a t v1 e_v1
 rw [call27, cf27]
 conv => arg 1; arg 7; unfold S01.c27 Tryd.f27; simp only [Option.getD_some, foldR, if_true]
 by_cases c1 : v1 = true
 ·have h := iteT h c1
  obtain ⟨v, e_v, h⟩ := ob h
  obtain ⟨w, e_w, h⟩ := ob h
  obtain ⟨g, l⟩ := w
  simp only [go_sem, e_v1c, c1]
  refine Sat.callc ?_
  rw [call55]
  conv => arg 1; arg 7; unfold S01.c55 Tryd.f55; simp only [Option.getD_some]
  simp only [go_sem]
  refine Sat.ok ?_
  simp only [go_sem]
  have q : ∀ E c d, get E 6 = .ptr 3 0 → call Tryd.prog T H (.fn 83) [.p (.agg [iv t.Sym, .sl none 2 (List.map row_Tree t.Kids)]), .ptr 6 0, .ptr 8 0, .ptr 9 0] [c, d, .dead, .cells [.nms 2 1], d, .loop 0 none 22 27 E [14, 15] A27_0 B27_0, .cells [.yld 5], .dead, .cells [.nms 7 1], .cells [.fn 83 [.ptr 6 0, .ptr 8 0, .ptr 9 0]]] = some (.ret (.p (bv true)), [c, d, oo v.1, .cells [ov v.1], d, .loop 0 none 22 27 E [14, 15] A27_0 B27_0, .cells [.yld 5], po v.2, .cells [pv v.2], .cells [.fn 83 [.ptr 6 0, .ptr 8 0, .ptr 9 0]]]) := fun E c d hE =>
   spec83 hE n [c, d, .dead, .cells [.nms 2 1], d, .loop 0 none 22 27 E [14, 15] A27_0 B27_0, .cells [.yld 5], .dead, .cells [.nms 7 1], .cells [.fn 83 [.ptr 6 0, .ptr 8 0, .ptr 9 0]]] ⟨Nat.le_refl _, rfl, rfl, rfl⟩ t (none, none) v e_v
  rw [e_w] at q
  refine Sat.callrange ?_
  rw [call82]
  conv => arg 1; arg 7; unfold S01.c82 Tryd.f82; simp only [Option.getD_some]
  simp only [go_sem, q]
  refine Sat.ok ?_
  have ww := fun base (σ : List AObj) k => mapM_rowA (rowL 1 rowI) base σ k l
  simp only [go_sem, rangeK_ok, atLoop_some, pendK_none, ov, oo, ww, List.length_map]
  injection h with h; subst h
  exact Sat.ok hQ
 ·have h := iteF h c1
  have c1 := eq_false_of_ne_true c1
  simp only [go_sem, e_v1c, c1]
  injection h with h; subst h
  exact Sat.ok hQ
theorem T_gl : T.gl = [(0, [.sl none 1 [[.lit (.int .i64 0)], [.lit (.int .i64 2)]]])] := rfl
attribute [go_sem] T_gl
end Go.AM.S01

namespace Go.AM.S01
open Go Go.Proofs Go.AM
set_option maxRecDepth 100000
set_option linter.unusedVariables false
set_option maxHeartbeats 4000000
def law01_awake (n : Nat)  : Option Bool :=
 (law01_leaf).bind fun v1 =>
 (law01_f v1 v1).bind fun v2 =>
 (law01_f v1 v2).bind fun v3 =>
 (law01_f v2 v1).bind fun v4 =>
 (tree_All n (Alphabet.mk [0, 2]) 5).bind fun v5 =>
 (tree_Positions n (Alphabet.mk [0, 2]) v3).bind fun v6 =>
 if v5.2 = 0 then
  (ref01_SameTrees n v5.1 [v3, v4]).bind fun v7 =>
  if v7 = true then
   (tree_Compare n v3 v4).bind fun v8 =>
   if v8 = (-1) then
    if v6.2 = 0 then
     (ref01_SameLists v6.1 [([] : List Int), [0], [1], [1, 0], [1, 1]]).bind fun v9 =>
     some v9
    else
     some false
   else
    some false
  else
   some false
 else
  some false
theorem spec10 (n : Nat)  (r : Bool) (h : law01_awake n = some r) :
 call Tryd.prog T H (.fn 10) [] [] = some (.ret (.p (bv r)), []) := by
 refine Sat.fn fun Q hQ => ?_
 unfold law01_awake at h
 rw [call10]
 conv => arg 1; arg 7; unfold S01.c10 Tryd.f10; simp only [Option.getD_some]
 obtain ⟨v1, e_v1, h⟩ := ob h
 have e_v1c := spec40 v1 e_v1
 obtain ⟨v2, e_v2, h⟩ := ob h
 have e_v2c := spec39 v1 v1 v2 e_v2
 obtain ⟨v3, e_v3, h⟩ := ob h
 have e_v3c := spec39 v1 v2 v3 e_v3
 obtain ⟨v4, e_v4, h⟩ := ob h
 have e_v4c := spec39 v2 v1 v4 e_v4
 obtain ⟨v5, e_v5, h⟩ := ob h
 have e_v5c : call Tryd.prog T H (.fn 12) [.p (.agg [.sl none 1 [[iv 0], [iv 2]]]), .p (iv 5)] [] = some (.ret (.p (.tup [.sl none 2 (List.map row_Tree v5.1), iv v5.2])), []) := by have q := spec12 n (Alphabet.mk [0, 2]) 5 v5 e_v5; simp only [List.map_cons, List.map_nil, rowI] at q ⊢; exact q
 obtain ⟨v6, e_v6, h⟩ := ob h
 have e_v6c : call Tryd.prog T H (.fn 27) [.p (.agg [.sl none 1 [[iv 0], [iv 2]]]), .p (.agg [iv v3.Sym, .sl none 2 (List.map row_Tree v3.Kids)])] [] = some (.ret (.p (.tup [.sl none 1 (List.map (rowL 1 rowI) v6.1), iv v6.2])), []) := by have q := spec27 n (Alphabet.mk [0, 2]) v3 v6 e_v6; simp only [List.map_cons, List.map_nil, rowI] at q ⊢; exact q
 by_cases c1 : v5.2 = 0
 ·have h := iteT h c1
  have c1b : (v5.2 == 0) = true := beqT c1
  obtain ⟨v7, e_v7, h⟩ := ob h
  have e_v7c : call Tryd.prog T H (.fn 14) [.p (.sl none 2 (List.map row_Tree v5.1)), .p (.sl none 2 [[iv v3.Sym, .sl none 2 (List.map row_Tree v3.Kids)], [iv v4.Sym, .sl none 2 (List.map row_Tree v4.Kids)]])] [] = some (.ret (.p (bv v7)), []) := by have q := spec14 n v5.1 [v3, v4] v7 e_v7; simp only [List.map_cons, List.map_nil, row_Tree_eq] at q ⊢; exact q
  by_cases c2 : v7 = true
  ·have h := iteT h c2
   obtain ⟨v8, e_v8, h⟩ := ob h
   have e_v8c := spec11 n v3 v4 v8 e_v8
   by_cases c3 : v8 = (-1)
   ·have h := iteT h c3
    have c3b : (v8 == (-1)) = true := beqT c3
    by_cases c4 : v6.2 = 0
    ·have h := iteT h c4
     have c4b : (v6.2 == 0) = true := beqT c4
     obtain ⟨v9, e_v9, h⟩ := ob h
     have e_v9c : call Tryd.prog T H (.fn 33) [.p (.sl none 1 (List.map (rowL 1 rowI) v6.1)), .p (.sl none 1 [[.sl none 1 []], [.sl none 1 [[iv 0]]], [.sl none 1 [[iv 1]]], [.sl none 1 [[iv 1], [iv 0]]], [.sl none 1 [[iv 1], [iv 1]]]])] [] = some (.ret (.p (bv v9)), []) := by have q := spec33 v6.1 [([] : List Int), [0], [1], [1, 0], [1, 1]] v9 e_v9; simp only [List.map_cons, List.map_nil, rowI, rowL] at q ⊢; exact q
     simp only [go_sem, e_v1c, e_v2c, e_v3c, e_v4c, e_v5c, e_v6c, c1b, e_v7c, c2, e_v8c, c3b, c4b, e_v9c]
     injection h with h; subst h
     exact Sat.ok hQ
    ·have h := iteF h c4
     have c4b : (v6.2 == 0) = false := beqF c4
     simp only [go_sem, e_v1c, e_v2c, e_v3c, e_v4c, e_v5c, e_v6c, c1b, e_v7c, c2, e_v8c, c3b, c4b]
     injection h with h; subst h
     exact Sat.ok hQ
   ·have h := iteF h c3
    have c3b : (v8 == (-1)) = false := beqF c3
    simp only [go_sem, e_v1c, e_v2c, e_v3c, e_v4c, e_v5c, e_v6c, c1b, e_v7c, c2, e_v8c, c3b]
    injection h with h; subst h
    exact Sat.ok hQ
  ·have h := iteF h c2
   have c2 := eq_false_of_ne_true c2
   simp only [go_sem, e_v1c, e_v2c, e_v3c, e_v4c, e_v5c, e_v6c, c1b, e_v7c, c2]
   injection h with h; subst h
   exact Sat.ok hQ
 ·have h := iteF h c1
  have c1b : (v5.2 == 0) = false := beqF c1
  simp only [go_sem, e_v1c, e_v2c, e_v3c, e_v4c, e_v5c, e_v6c, c1b]
  injection h with h; subst h
  exact Sat.ok hQ
end Go.AM.S01

namespace Go.AM.S01
open Go Go.Proofs Go.AM
set_option linter.unusedVariables false
theorem w64_eq {n : Int} (h1 : -9223372036854775808 ≤ n) (h2 : n ≤ 9223372036854775807) : w64 n = n := wrapN h1 h2
theorem app_ok {α : Type} {b : Nat} {xs ys : List α} (h : (xs.length + ys.length) * b ≤ 70368744177664) : app b xs ys = some (xs ++ ys) := if_pos h
mutual
def tsT : Tree → Nat
 | .mk _ k => 1 + tsL k
def tsL : List Tree → Nat
 | [] => 0
 | x :: r => tsT x + tsL r
end
mutual
def tdT : Tree → Nat
 | .mk _ k => tdL k
def tdL : List Tree → Nat
 | [] => 0
 | x :: r => max (tdT x + 1) (tdL r)
end
mutual
def twT : Tree → Bool
 | .mk _ k => decide (k.length < 9223372036854775808) && twL k
def twL : List Tree → Bool
 | [] => true
 | x :: r => twT x && twL r
end
theorem tsT_eq (t : Tree) : tsT t = 1 + tsL t.Kids := by cases t; rw [tsT]
theorem tdT_eq (t : Tree) : tdT t = tdL t.Kids := by cases t; rw [tdT]
theorem twT_eq (t : Tree) : twT t = (decide (t.Kids.length < 9223372036854775808) && twL t.Kids) := by cases t; rw [twT]
theorem tlen : ∀ l : List Tree, l.length ≤ tsL l
 | [] => Nat.zero_le _
 | x :: r => by rw [tsL, List.length_cons, tsT_eq]; have := tlen r; omega
theorem tdL_cons {x : Tree} {r : List Tree} {n : Nat} (h : tdL (x :: r) < n + 1) : tdT x < n ∧ tdL r < n + 1 := by rw [tdL] at h; omega
theorem tcount_eq : ∀ (n : Nat) (t : Tree) (m : Int), tdT t < n → twT t = true → 0 ≤ m → m ≤ 1000000 → ref01_count n t m = some (min (tsT t : Int) (m + 1)) := by
 intro n
 induction n with
 | zero => intro t m hd; omega
 | succ n ih =>
  intro t m hd hw h1 h2
  rw [twT_eq] at hw
  simp only [Bool.and_eq_true, decide_eq_true_eq] at hw
  rw [tdT_eq] at hd
  rw [ref01_count, rangeL, if_pos hw.1]
  suffices H : ∀ (l : List Tree) (i : Nat) (c : Nat) (k : Int → Option Int), 1 ≤ c → tdL l < n + 1 → twL l = true → rangeC (fun i1 x1 (s1 : Int) n1 => if s1 ≤ m then (ref01_count n x1 (w64 (m - s1))).bind fun v1 => n1 (w64 (s1 + v1)) else n1 s1) l i (min (c : Int) (m + 1)) k = k (min ((c + tsL l : Nat) : Int) (m + 1)) by
   have := H t.Kids 0 1 (fun s => some s) (by omega) hd hw.2
   rw [show min ((1 : Nat) : Int) (m + 1) = 1 by omega] at this
   rw [this, tsT_eq]
  intro l
  induction l with
  | nil => intro i c k _ _ _; rw [rangeC, tsL]; rfl
  | cons x r ihr =>
   intro i c k hc hd hw
   obtain ⟨d1, d2⟩ := tdL_cons hd
   rw [twL, Bool.and_eq_true] at hw
   rw [rangeC]
   by_cases cc : min (c : Int) (m + 1) ≤ m
   ·rw [if_pos cc]
    have e : min (c : Int) (m + 1) = c := by omega
    rw [e, w64_eq (n := m - c) (by omega) (by omega), ih x _ d1 hw.1 (by omega) (by omega)]
    show rangeC _ r (i + 1) (w64 (c + min (tsT x : Int) (m - c + 1))) k = _
    rw [w64_eq (by omega) (by omega)]
    have := ihr (i + 1) (c + tsT x) k (by omega) d2 hw.2
    rw [show (c : Int) + min (tsT x : Int) (m - c + 1) = min ((c + tsT x : Nat) : Int) (m + 1) by omega, this, tsL]
    congr 2; omega
   ·rw [if_neg cc]
    show rangeC _ r (i + 1) (min (c : Int) (m + 1)) k = _
    have := ihr (i + 1) (c + tsT x) k (by omega) d2 hw.2
    rw [show min (c : Int) (m + 1) = min ((c + tsT x : Nat) : Int) (m + 1) by omega, this, tsL]
    congr 2; omega
theorem tfew_eq {n : Nat} {t : Tree} {m : Int} (hd : tdT t < n) (hw : twT t = true) (h1 : 0 ≤ m) (h2 : m ≤ 1000000) : ref01_Few n t m = some (decide ((tsT t : Int) ≤ m)) := by
 rw [ref01_Few, tcount_eq n t m hd hw h1 h2]
 show some _ = some _
 congr 1
 exact decide_eq_decide.2 (by omega)
theorem awake_eq (m : Nat) : law01_awake (m + 20) = some true := by rfl
end Go.AM.S01

namespace Go.AM
open Go
theorem hOf_pr {f : FuncId} : ∀ {l : List (Nat × FH)}, (l.all fun p => p.2.pr.isNone) = true → (hOf l f).pr = none
 | [], _ => rfl
 | (k, h) :: r, ha => by
  rw [List.all_cons, Bool.and_eq_true] at ha
  unfold hOf
  split
  ·have := ha.1
   cases hp : h.pr with
   | none => rfl
   | some p => simp [hp] at this
  ·exact hOf_pr ha.2
section
variable {T : Tab}
theorem wt_int {n : Nat} {t : TypeId} {cs : List PV} (hd : (T.at t).d = .int .i64) (h : wt T n t cs) : ∃ i, cs = [iv i] ∧ -9223372036854775808 ≤ i ∧ i ≤ 9223372036854775807 := by
 cases n with
 | zero => exact h.elim
 | succ n =>
  unfold wt at h
  rw [hd] at h
  obtain ⟨i, rfl, h1, h2⟩ := h
  refine ⟨i, rfl, ?_⟩
  have e1 : IntKind.i64.min = -9223372036854775808 := by decide
  have e2 : IntKind.i64.max = 9223372036854775807 := by decide
  rw [e1] at h1; rw [e2] at h2
  exact ⟨h1, h2⟩
theorem wt_sl {n : Nat} {t e : TypeId} {cs : List PV} (hd : (T.at t).d = .sl e) (h : wt T n t cs) : ∃ m rows, n = m + 1 ∧ cs = [.sl none (T.at e).size rows] ∧ rows.length < 9223372036854775808 ∧ ∀ r, r ∈ rows → wt T m e r := by
 cases n with
 | zero => exact h.elim
 | succ n =>
  unfold wt at h
  rw [hd] at h
  obtain ⟨rows, rfl, h1, h2⟩ := h
  have : maxLen < 9223372036854775808 := by decide
  exact ⟨n, rows, rfl, rfl, by omega, h2⟩
theorem wt_st {n : Nat} {t : TypeId} {fs : List (Nat × TypeId)} {cs : List PV} (hd : (T.at t).d = .st fs) (h : wt T n t cs) : ∃ m, n = m + 1 ∧ cs.length = (T.at t).size ∧ ∀ f, f ∈ fs → wt T m f.2 ((cs.drop f.1).take (T.at f.2).size) := by
 cases n with
 | zero => exact h.elim
 | succ n =>
  unfold wt at h
  rw [hd] at h
  exact ⟨n, rfl, h⟩
theorem rows_map {α : Type} {row : α → List PV} {P : α → Prop} : ∀ {rows : List (List PV)}, (∀ r, r ∈ rows → ∃ x, r = row x ∧ P x) → ∃ xs : List α, rows = xs.map row ∧ ∀ x, x ∈ xs → P x
 | [], _ => ⟨[], rfl, by simp⟩
 | r :: rows, h => by
  obtain ⟨x, rfl, hx⟩ := h r (by simp)
  obtain ⟨xs, rfl, hxs⟩ := rows_map (rows := rows) (fun r' h' => h r' (List.mem_cons_of_mem _ h'))
  exact ⟨x :: xs, rfl, fun y hy => by
   rcases List.mem_cons.1 hy with rfl | hy
   ·exact hx
   ·exact hxs y hy⟩
theorem wt_slM {n : Nat} {t e : TypeId} {cs : List PV} {α : Type} {row : α → List PV} {P : α → Prop} (hd : (T.at t).d = .sl e) (h : wt T n t cs) (he : ∀ m r, m < n → wt T m e r → ∃ x, r = row x ∧ P x) : ∃ xs : List α, cs = [.sl none (T.at e).size (xs.map row)] ∧ xs.length < 9223372036854775808 ∧ ∀ x, x ∈ xs → P x := by
 obtain ⟨m, rows, rfl, rfl, h1, h2⟩ := wt_sl hd h
 obtain ⟨xs, rfl, hx⟩ := rows_map (row := row) (P := P) (fun r hr => he m r (by omega) (h2 r hr))
 exact ⟨xs, rfl, by simpa using h1, hx⟩
end
end Go.AM

namespace Go.AM.S01
open Go Go.Proofs Go.AM
theorem twL_all : ∀ {l : List Tree}, (∀ x, x ∈ l → twT x = true) → twL l = true
 | [], _ => by rw [twL]
 | x :: r, h => by rw [twL, h x (by simp), twL_all (fun y hy => h y (List.mem_cons_of_mem _ hy))]; rfl
theorem d3 : (T.at 3).d = .int .i64 := rfl
theorem d24 : (T.at 24).d = .st [(0, 3), (1, 22)] := rfl
theorem d22 : (T.at 22).d = .sl 24 := rfl
theorem sz3 : (T.at 3).size = 1 := rfl
theorem sz22 : (T.at 22).size = 1 := rfl
theorem sz24 : (T.at 24).size = 2 := rfl
theorem wt24 : ∀ (n : Nat) (cs : List PV), wt T n 24 cs → ∃ x : Tree, cs = row_Tree x ∧ twT x = true := by
 intro n
 induction n using Nat.strongRecOn with
 | _ n ih =>
  intro cs h
  obtain ⟨m, rfl, h1, h2⟩ := wt_st d24 h
  rw [sz24] at h1
  match cs, h1 with
  | [c0, c1], _ =>
   have f0 := h2 (0, 3) (by simp)
   have f1 := h2 (1, 22) (by simp)
   simp only [sz3, sz22, List.drop_zero, List.drop_succ_cons, List.take_succ_cons, List.take_zero] at f0 f1
   obtain ⟨i, e0, _⟩ := wt_int d3 f0
   obtain ⟨xs, e1, hl, hx⟩ := wt_slM (row := row_Tree) (P := fun x => twT x = true) d22 f1 (fun m' r hm hr => ih m' (by omega) r hr)
   injection e0 with e0; subst e0
   injection e1 with e1; subst e1
   refine ⟨⟨i, xs⟩, by rw [row_Tree_eq, sz24], ?_⟩
   rw [twT, decide_eq_true hl, twL_all hx]; rfl
theorem primOk : PrimOk Tryd.prog GL H := PrimOk.none fun f => hOf_pr (by kernel_rfl)
end Go.AM.S01

namespace Go.AM.S01
open Go Go.Proofs Go.AM
set_option linter.unusedVariables false
theorem tree_Size_eq : ∀ (n : Nat) (t : Tree), tdT t < n → tsT t ≤ 1000000 → tree_Size n t = some (tsT t : Int) := by
 intro n
 induction n with
 | zero => intro t hd; omega
 | succ n ih =>
  intro t hd hs
  rw [tdT_eq] at hd
  have hlen := tlen t.Kids
  rw [tsT_eq] at hs
  rw [tree_Size, rangeL, if_pos (by omega)]
  suffices H : ∀ (l : List Tree) (i : Nat) (s : Int) (k : Int → Option Int), tdL l < n + 1 → 1 ≤ s → s + tsL l ≤ 1000001 → rangeC (fun i1 x1 (s1 : Int) n1 => (tree_Size n x1).bind fun v1 => n1 (w64 (s1 + v1))) l i s k = k (s + tsL l) by
   rw [H t.Kids 0 1 _ hd (by omega) (by omega), tsT_eq]
   congr 1
  intro l
  induction l with
  | nil => intro i s k _ _ _; rw [rangeC, tsL]; congr 1; simp
  | cons x r ihr =>
   intro i s k hd h0 h1
   obtain ⟨d1, d2⟩ := tdL_cons hd
   rw [tsL] at h1
   rw [rangeC, ih x d1 (by omega)]
   simp only [Option.bind_some]
   rw [w64_eq (by omega) (by omega), ihr _ _ _ d2 (by omega) (by omega), tsL]
   congr 1; omega
mutual
theorem td_le : ∀ t : Tree, tdT t + 1 ≤ tsT t
 | .mk s k => by rw [tdT, tsT]; have := tdL_le k; omega
theorem tdL_le : ∀ l : List Tree, tdL l ≤ tsL l
 | [] => by rw [tdL, tsL]; exact Nat.le_refl _
 | x :: r => by rw [tdL, tsL]; have := td_le x; have := tdL_le r; omega
end
end Go.AM.S01

namespace Go.AM.S01
open Go Go.Proofs Go.AM
set_option linter.unusedVariables false
def rk (r : List Int) (s : Int) : Int := (r[s.toNat]?).getD 0
theorem rk_get {r : List Int} {s : Int} (h0 : 0 ≤ s) (h1 : s < r.length) : idx r s = some (rk r s) := by
 unfold idx rk
 rw [if_pos h0, List.getElem?_eq_getElem (by omega)]; rfl
mutual
def shT (r : List Int) : Tree → Bool
 | .mk s k => decide (0 ≤ s ∧ s < r.length ∧ (k.length : Int) = rk r s) && shL r k
def shL (r : List Int) : List Tree → Bool
 | [] => true
 | x :: q => shT r x && shL r q
end
theorem shT_eq (r : List Int) (t : Tree) : shT r t = (decide (0 ≤ t.Sym ∧ t.Sym < r.length ∧ (t.Kids.length : Int) = rk r t.Sym) && shL r t.Kids) := by cases t; rw [shT]
theorem tw_out {t : Tree} (h : twT t = true) : t.Kids.length < 9223372036854775808 ∧ twL t.Kids = true := by
 rw [twT_eq] at h; simpa only [Bool.and_eq_true, decide_eq_true_eq] using h
theorem tw_cons {x : Tree} {q : List Tree} (h : twL (x :: q) = true) : twT x = true ∧ twL q = true := by
 rw [twL] at h; simpa only [Bool.and_eq_true] using h
theorem tformed_eq (r : List Int) : ∀ (n : Nat) (t : Tree) (m : Int), tdT t < n → twT t = true → 0 ≤ m → m ≤ 1000000 →
 (((tsT t : Int) ≤ m ∧ shT r t = true) ∧ tree_formed n ⟨r⟩ t m = some (true, m - tsT t)) ∨ (¬ ((tsT t : Int) ≤ m ∧ shT r t = true) ∧ ∃ v, tree_formed n ⟨r⟩ t m = some (false, v)) := by
 intro n
 induction n with
 | zero => intro t m hd; omega
 | succ n ih =>
  intro t m hd hw h1 h2
  obtain ⟨w1, w2⟩ := tw_out hw
  rw [tree_formed, shT_eq, tsT_eq]
  simp only [Bool.and_eq_true, decide_eq_true_eq]
  have e1 : w64 (m - 1) = m - 1 := w64_eq (by omega) (by omega)
  rw [e1]
  by_cases c1 : m - 1 < 0
  ·exact .inr ⟨by omega, _, by rw [if_pos c1]⟩
  rw [if_neg c1]
  by_cases c2 : t.Sym < 0
  ·exact .inr ⟨by omega, _, by rw [if_pos c2]⟩
  rw [if_neg c2]
  by_cases c3 : (r.length : Int) ≤ t.Sym
  ·exact .inr ⟨by omega, _, by rw [if_pos c3]⟩
  rw [if_neg c3, rk_get (by omega) (by omega)]
  simp only [Option.bind_some]
  by_cases c4 : (t.Kids.length : Int) = rk r t.Sym
  ·rw [if_pos c4]
   rw [rangeL, if_pos w1]
   rw [tdT_eq] at hd
   suffices H : ∀ (l : List Tree) (i : Nat) (s : Int), tdL l < n + 1 → twL l = true → 0 ≤ s → s ≤ 1000000 →
    (((tsL l : Int) ≤ s ∧ shL r l = true) ∧ ∀ k : Int → Option (Bool × Int), rangeC (fun i1 x1 (s1 : Int) n1 => (tree_formed n ⟨r⟩ x1 s1).bind fun v2 => if v2.1 = true then n1 v2.2 else some (false, v2.2)) l i s k = k (s - tsL l)) ∨
    (¬ ((tsL l : Int) ≤ s ∧ shL r l = true) ∧ ∃ v, ∀ k : Int → Option (Bool × Int), rangeC (fun i1 x1 (s1 : Int) n1 => (tree_formed n ⟨r⟩ x1 s1).bind fun v2 => if v2.1 = true then n1 v2.2 else some (false, v2.2)) l i s k = some (false, v)) by
    rcases H t.Kids 0 (m - 1) hd w2 (by omega) (by omega) with ⟨c, e⟩ | ⟨c, v, e⟩
    ·exact .inl ⟨⟨by omega, ⟨by omega, by omega, c4⟩, c.2⟩, by rw [e]; congr 2; omega⟩
    ·exact .inr ⟨fun hh => c ⟨by omega, hh.2.2⟩, v, e _⟩
   intro l
   induction l with
   | nil => intro i s _ _ h1 h2; exact .inl ⟨⟨by rw [tsL]; exact h1, by rw [shL]⟩, fun k => by rw [rangeC, tsL]; congr 1; simp⟩
   | cons x q ihr =>
    intro i s hd hw h1 h2
    obtain ⟨d1, d2⟩ := tdL_cons hd
    obtain ⟨v1, v2⟩ := tw_cons hw
    rw [tsL, shL]
    simp only [Bool.and_eq_true, rangeC]
    rcases ih x s d1 v1 h1 h2 with ⟨c, e⟩ | ⟨c, v, e⟩
    ·rcases ihr (i + 1) (s - tsT x) d2 v2 (by omega) (by omega) with ⟨c', e'⟩ | ⟨c', v, e'⟩
     ·exact .inl ⟨⟨by omega, c.2, c'.2⟩, fun k => by rw [e]; simp only [Option.bind_some, if_true]; rw [e' k]; congr 1; omega⟩
     ·exact .inr ⟨fun hh => c' ⟨by omega, hh.2.2⟩, v, fun k => by rw [e]; simp only [Option.bind_some, if_true]; rw [e' k]⟩
    ·exact .inr ⟨fun hh => c ⟨by omega, hh.2.1⟩, v, fun k => by rw [e]; rfl⟩
  ·rw [if_neg c4]
   exact .inr ⟨fun hh => c4 hh.2.1.2.2, _, rfl⟩
theorem shaped_eq (r : List Int) : ∀ (n : Nat) (t : Tree), tdT t < n → twT t = true → ref01_shaped n ⟨r⟩ t = some (shT r t) := by
 intro n
 induction n with
 | zero => intro t hd; omega
 | succ n ih =>
  intro t hd hw
  obtain ⟨w1, w2⟩ := tw_out hw
  rw [ref01_shaped, shT_eq]
  by_cases c2 : t.Sym < 0
  ·rw [if_pos c2, decide_eq_false (by omega)]; rfl
  rw [if_neg c2]
  by_cases c3 : (r.length : Int) ≤ t.Sym
  ·simp only [] at c3 ⊢
   rw [if_pos c3, decide_eq_false (by omega)]; rfl
  have c3' : ¬ (r.length : Int) ≤ t.Sym := c3
  rw [if_neg c3, show idx (Alphabet.mk r).Ranks t.Sym = some (rk r t.Sym) from rk_get (r := r) (Int.not_lt.1 c2) (Int.not_le.1 c3')]
  simp only [Option.bind_some]
  by_cases c4 : (t.Kids.length : Int) = rk r t.Sym
  ·rw [if_pos c4, rangeL, if_pos w1, decide_eq_true ⟨Int.not_lt.1 c2, Int.not_le.1 c3', c4⟩, Bool.true_and]
   rw [tdT_eq] at hd
   suffices H : ∀ (l : List Tree) (i : Nat), tdL l < n + 1 → twL l = true → rangeC (fun i1 x1 (s1 : Unit) n1 => (ref01_shaped n ⟨r⟩ x1).bind fun v2 => if v2 = true then n1 () else some false) l i () (fun _ => some true) = some (shL r l) from H t.Kids 0 hd w2
   intro l
   induction l with
   | nil => intro i _ _; rw [rangeC, shL]
   | cons x q ihr =>
    intro i hd hw
    obtain ⟨d1, d2⟩ := tdL_cons hd
    obtain ⟨v1, v2⟩ := tw_cons hw
    rw [rangeC, ih x d1 v1, shL]
    simp only [Option.bind_some]
    cases shT r x with
    | true => rw [if_pos rfl, ihr (i + 1) d2 v2]; rfl
    | false => rfl
  ·rw [if_neg c4, decide_eq_false (fun hh => c4 hh.2.2)]; rfl
def vA (r : List Int) : Bool := decide (r.length ≤ 12) && r.all fun x => decide (0 ≤ x ∧ x ≤ 3)
theorem hvA (r : List Int) : tree_ValidAlphabet ⟨r⟩ = some (vA r) := by
 unfold tree_ValidAlphabet vA
 simp only []
 by_cases c : (r.length : Int) ≤ 12
 ·rw [if_pos c, decide_eq_true (by omega : r.length ≤ 12), Bool.true_and]
  simp only [jn]
  rw [rangeL, if_pos (by omega)]
  suffices H : ∀ (l : List Int) (i : Nat), rangeC (fun i1 (x1 : Int) (s1 : Unit) n1 => (tree_ValidAlphabet_1 x1).bind fun v1 => if v1 = true then some (!decide ((0 : Int) ≤ (i1 : Int))) else n1 ()) l i () (fun _ => some (!decide ((0 : Int) ≤ -1))) = some (l.all fun x => decide (0 ≤ x ∧ x ≤ 3)) from H r 0
  intro l
  induction l with
  | nil => intro i; rw [rangeC]; rfl
  | cons x q ih =>
   intro i
   rw [rangeC, List.all_cons]
   unfold tree_ValidAlphabet_1
   by_cases c1 : x < 0
   ·rw [if_pos c1, decide_eq_false (by omega : ¬ (0 ≤ x ∧ x ≤ 3))]
    simp only [Option.bind_some, if_true]
    rw [decide_eq_true (by omega : (0 : Int) ≤ (i : Int))]; rfl
   ·rw [if_neg c1]
    simp only [Option.bind_some]
    by_cases c2 : 3 < x
    ·rw [decide_eq_true c2, decide_eq_false (by omega : ¬ (0 ≤ x ∧ x ≤ 3)), if_pos rfl, decide_eq_true (by omega : (0 : Int) ≤ (i : Int))]; rfl
    ·rw [decide_eq_false c2, decide_eq_true (by omega : 0 ≤ x ∧ x ≤ 3), if_neg (by decide), Bool.true_and]
     exact ih (i + 1)
 ·rw [if_neg c, decide_eq_false (by omega : ¬ r.length ≤ 12)]; rfl
theorem rvA (r : List Int) : ref01_ValidAlphabet ⟨r⟩ = some (vA r) := by
 unfold ref01_ValidAlphabet vA
 simp only []
 by_cases c : 12 < (r.length : Int)
 ·rw [if_pos c, decide_eq_false (by omega : ¬ r.length ≤ 12)]; rfl
 ·rw [if_neg c, decide_eq_true (by omega : r.length ≤ 12), Bool.true_and, rangeL, if_pos (by omega)]
  suffices H : ∀ (l : List Int) (i : Nat), rangeC (fun i1 (x1 : Int) (s1 : Unit) n1 => if x1 < 0 then some false else if 3 < x1 then some false else n1 ()) l i () (fun _ => some true) = some (l.all fun x => decide (0 ≤ x ∧ x ≤ 3)) from H r 0
  intro l
  induction l with
  | nil => intro i; rw [rangeC]; rfl
  | cons x q ih =>
   intro i
   rw [rangeC, List.all_cons]
   by_cases c1 : x < 0
   ·rw [if_pos c1, decide_eq_false (by omega : ¬ (0 ≤ x ∧ x ≤ 3))]; rfl
   ·rw [if_neg c1]
    by_cases c2 : 3 < x
    ·rw [if_pos c2, decide_eq_false (by omega : ¬ (0 ≤ x ∧ x ≤ 3))]; rfl
    ·rw [if_neg c2, decide_eq_true (by omega : 0 ≤ x ∧ x ≤ 3), Bool.true_and]
     exact ih (i + 1)
def tvld (r : List Int) (t : Tree) : Bool := vA r && (decide ((tsT t : Int) ≤ 300) && shT r t)
theorem tvalid_eq (r : List Int) {n : Nat} {t : Tree} (hd : tdT t < n) (hw : twT t = true) : tree_Valid n ⟨r⟩ t = some (tvld r t) := by
 unfold tree_Valid tvld
 rw [hvA]
 simp only [Option.bind_some]
 cases vA r with
 | false => rfl
 | true =>
  rw [if_pos rfl, Bool.true_and]
  rcases tformed_eq r n t 300 hd hw (by omega) (by omega) with ⟨c, e⟩ | ⟨c, v, e⟩
  ·rw [e, decide_eq_true c.1, c.2]; rfl
  ·rw [e]
   simp only [Option.bind_some]
   congr 1
   cases h1 : shT r t with
   | false => simp
   | true => rw [decide_eq_false (fun h2 => c ⟨h2, h1⟩)]; rfl
theorem rtvalid_eq (r : List Int) {n : Nat} {t : Tree} (hd : tdT t < n) (hw : twT t = true) : ref01_Valid n ⟨r⟩ t = some (tvld r t) := by
 unfold ref01_Valid tvld
 rw [rvA]
 simp only [Option.bind_some]
 cases vA r with
 | false => rfl
 | true =>
  rw [if_pos rfl, Bool.true_and, tfew_eq hd hw (by omega) (by omega)]
  simp only [Option.bind_some]
  by_cases c3 : (tsT t : Int) ≤ 300
  ·rw [decide_eq_true c3, if_pos rfl, shaped_eq r n t hd hw]; rfl
  ·rw [decide_eq_false c3]; rfl
end Go.AM.S01

namespace Go.AM.S01
open Go Go.Proofs Go.AM
set_option linter.unusedVariables false
theorem same_eq : ∀ (n : Nat) (x y : Tree), tdT x < n → twT x = true → (x = y ∧ ref01_Same n x y = some true) ∨ (x ≠ y ∧ ref01_Same n x y = some false) := by
 intro n
 induction n with
 | zero => intro x y h; omega
 | succ n ih =>
  intro x y hd hw
  obtain ⟨w1, w2⟩ := tw_out hw
  rw [tdT_eq] at hd
  rw [ref01_Same]
  by_cases c1 : x.Sym = y.Sym
  ·rw [if_pos c1]
   by_cases c2 : (x.Kids.length : Int) = y.Kids.length
   ·rw [if_pos c2, rangeL, if_pos w1]
    suffices H : ∀ (us vs p : List Tree), us.length = vs.length → y.Kids = p ++ vs → tdL us < n + 1 → twL us = true →
     (us = vs ∧ rangeC (fun i1 x1 (s1 : Unit) n1 => (y.Kids[i1]?).bind fun v1 => (ref01_Same n x1 v1).bind fun v2 => if v2 = true then n1 () else some false) us p.length () (fun _ => some true) = some true) ∨
     (us ≠ vs ∧ rangeC (fun i1 x1 (s1 : Unit) n1 => (y.Kids[i1]?).bind fun v1 => (ref01_Same n x1 v1).bind fun v2 => if v2 = true then n1 () else some false) us p.length () (fun _ => some true) = some false) by
     rcases H x.Kids y.Kids [] (by omega) rfl hd w2 with ⟨e, h⟩ | ⟨e, h⟩
     ·refine .inl ⟨?_, h⟩
      obtain ⟨s, k⟩ := x; obtain ⟨s', k'⟩ := y
      simp only [] at e c1
      rw [e, c1]
     ·exact .inr ⟨fun ee => e (by rw [ee]), h⟩
    intro us
    induction us with
    | nil =>
     intro vs p hl _ _ _
     have : vs = [] := List.length_eq_zero_iff.1 hl.symm
     subst this
     exact .inl ⟨rfl, by rw [rangeC]⟩
    | cons a us iha =>
     intro vs p hl e h1 h2
     obtain ⟨d1, d2⟩ := tdL_cons h1
     obtain ⟨v1, v2⟩ := tw_cons h2
     match vs, hl with
     | b :: vs, hl =>
      have hb : y.Kids[p.length]? = some b := by rw [e, List.getElem?_append_right (Nat.le_refl _), Nat.sub_self]; rfl
      rw [rangeC, hb]
      simp only [Option.bind_some]
      rcases ih a b d1 v1 with ⟨e1, s1⟩ | ⟨e1, s1⟩
      ·rw [s1]
       simp only [Option.bind_some, if_true]
       rcases iha vs (p ++ [b]) (by simpa using hl) (by rw [e]; simp) d2 v2 with ⟨e2, s2⟩ | ⟨e2, s2⟩
       ·rw [List.length_append] at s2
        exact .inl ⟨by rw [e1, e2], s2⟩
       ·rw [List.length_append] at s2
        exact .inr ⟨fun ee => e2 (List.cons.inj ee).2, s2⟩
      ·rw [s1]
       exact .inr ⟨fun ee => e1 (List.cons.inj ee).1, rfl⟩
   ·rw [if_neg c2]; exact .inr ⟨fun e => c2 (by rw [e]), rfl⟩
  ·rw [if_neg c1]; exact .inr ⟨fun e => c1 (by rw [e]), rfl⟩
def isL (v : Int) : Bool := (decide (97 ≤ v) && decide (v ≤ 122)) || (decide (65 ≤ v) && decide (v ≤ 90))
def isD (v : Int) : Bool := decide (48 ≤ v) && decide (v ≤ 57)
theorem letter_eq (v : Int) : tree_letter v = some (isL v) := by
 unfold tree_letter isL
 repeat' split
 all_goals simp_all
 all_goals first | done | (intros; omega) | (constructor <;> intros <;> omega)
theorem rletter_eq (v : Int) : ref01_letter v = some (isL v) := by
 unfold ref01_letter isL
 repeat' split
 all_goals simp_all
 all_goals first | done | (intros; omega) | (constructor <;> intros <;> omega)
theorem digit_eq (v : Int) : tree_digit v = some (isD v) := by
 unfold tree_digit isD
 split <;> simp_all
 all_goals first | done | (intros; omega)
theorem rdigit_eq (v : Int) : ref01_digit v = some (isD v) := by
 unfold ref01_digit isD
 split <;> simp_all
 all_goals first | done | (intros; omega)
def isLD (v : UInt8) : Bool := isL (v.toNat : Int) || isD (v.toNat : Int)
theorem d26 : (T.at 26).d = .sl 3 := rfl
theorem sz26 : (T.at 26).size = 1 := rfl
theorem d28 : (T.at 28).d = .st [(0, 26)] := rfl
theorem sz28 : (T.at 28).size = 1 := rfl
theorem wt28 {n : Nat} {cs : List PV} (h : wt T n 28 cs) : ∃ r : List Int, cs = [.sl none 1 (r.map rowI)] := by
 obtain ⟨m, rfl, h1, h2⟩ := wt_st d28 h
 rw [sz28] at h1
 match cs, h1 with
 | [c0], _ =>
  have f0 := h2 (0, 26) (by simp)
  simp only [sz26, List.drop_zero, List.take_succ_cons, List.take_zero] at f0
  obtain ⟨xs, e, _, _⟩ := wt_slM (row := rowI) (P := fun _ => True) d26 f0 (fun m' r _ hr => by
   obtain ⟨i, e, _⟩ := wt_int d3 hr
   exact ⟨i, e, trivial⟩)
  rw [sz3] at e
  exact ⟨xs, e⟩
theorem d9 : (T.at 9).d = .str := rfl
theorem wt9 {n : Nat} {cs : List PV} (h : wt T n 9 cs) : ∃ s : Str, cs = [.lit (.string (bs s))] := by
 cases n with
 | zero => exact h.elim
 | succ n =>
  unfold wt at h
  rw [d9] at h
  obtain ⟨s, rfl, _⟩ := h
  exact ⟨s.data.toList, by cases s; rfl⟩
end Go.AM.S01

namespace Go.AM.S01
open Go Go.Proofs Go.AM
set_option linter.unusedVariables false
def sub : Tree → List Int → Option Tree
 | t, [] => some t
 | t, i :: p => if 0 ≤ i then (t.Kids[i.toNat]?).bind fun k => sub k p else none
end Go.AM.S01

namespace Go.AM.S01
open Go Go.Proofs Go.AM
set_option linter.unusedVariables false
mutual
theorem twT_of : ∀ t : Tree, tsT t < 9223372036854775808 → twT t = true
 | .mk s k, h => by
  rw [tsT] at h
  have := tlen k
  rw [twT, decide_eq_true (by omega), twL_of k (by omega)]; rfl
theorem twL_of : ∀ l : List Tree, tsL l < 9223372036854775808 → twL l = true
 | [], _ => by rw [twL]
 | x :: r, h => by
  rw [tsL] at h
  rw [twL, twT_of x (by omega), twL_of r (by omega)]; rfl
end
theorem tvld_le {r : List Int} {t : Tree} (c : tvld r t = true) : vA r = true ∧ tsT t ≤ 300 ∧ shT r t = true := by
 unfold tvld at c
 simp only [Bool.and_eq_true, decide_eq_true_eq] at c
 exact ⟨c.1, by omega, c.2.2⟩
end Go.AM.S01

namespace Go.AM.S01
open Go Go.Proofs Go.AM
set_option maxRecDepth 100000
set_option linter.unusedVariables false
set_option maxHeartbeats 4000000
end Go.AM.S01

namespace Go.AM.S01
open Go Go.Proofs Go.AM
set_option linter.unusedVariables false
theorem same_refl {n : Nat} {x : Tree} (h : tdT x < n) (hw : twT x = true) : ref01_Same n x x = some true := by
 rcases same_eq n x x h hw with ⟨_, h⟩ | ⟨e, _⟩
 ·exact h
 ·exact absurd rfl e
end Go.AM.S01

namespace Go.AM.S01
open Go Go.Proofs Go.AM
set_option linter.unusedVariables false
set_option maxRecDepth 100000
def wrd : Str → Str
 | [] => []
 | a :: q => if isL (a.toNat : Int) = true then a :: q.takeWhile isLD else []
def nameB (s : Str) : Bool := decide (s ≠ []) && (decide (s.length ≤ 12) && decide (wrd s = s))
theorem idx_at {s pre suf : Str} {v : UInt8} (e : s = pre ++ v :: suf) : idx s (pre.length : Int) = some v := by
 unfold idx; rw [if_pos (by omega), Int.toNat_natCast, e, List.getElem?_append_right (Nat.le_refl _), Nat.sub_self]; rfl
theorem word_loop {R : Type} (K : Int → Option R) (s : Str) (hs : s.length ≤ 9000000) : ∀ (suf pre : Str) (j : Nat), s = pre ++ suf → 1 ≤ pre.length → suf.length < j → whileC (fun (s1 : Int) n1 => if s1 < (s.length : Int) then (idx s s1).bind fun v1 => (ref01_letter (v1.toNat : Int)).bind fun v2 => if v2 = true then n1 (w64 (s1 + 1)) else if 0 < s1 then (ref01_digit (v1.toNat : Int)).bind fun v3 => if v3 = true then n1 (w64 (s1 + 1)) else K s1 else K s1 else K s1) j (pre.length : Int) = K ((pre.length : Int) + (suf.takeWhile isLD).length) := by
 intro suf
 induction suf with
 | nil =>
  intro pre j e h1 h2
  match j, h2 with
  | j + 1, _ =>
   rw [whileC]
   have : s.length = pre.length := by rw [e]; simp
   rw [if_neg (by omega)]; simp
 | cons v suf ih =>
  intro pre j e h1 h2
  match j, h2 with
  | j + 1, h2 =>
   have hlen : s.length = pre.length + (suf.length + 1) := by rw [e]; simp
   rw [whileC, if_pos (by omega), idx_at e]
   simp only [Option.bind_some]
   rw [rletter_eq, rdigit_eq]
   simp only [Option.bind_some]
   have next := ih (pre ++ [v]) j (by rw [e]; simp) (by simp) (by simp only [List.length_cons] at h2; omega)
   rw [List.length_append] at next
   have hw : w64 ((pre.length : Int) + 1) = ((pre.length + [v].length : Nat) : Int) := by rw [w64_eq (by omega) (by omega)]; simp
   by_cases l1 : isL (v.toNat : Int) = true
   ·rw [if_pos l1, hw, next, List.takeWhile_cons, if_pos (by unfold isLD; rw [l1]; rfl)]
    congr 1; simp only [List.length_cons, List.length_nil]; omega
   ·rw [if_neg l1, if_pos (by omega)]
    by_cases l2 : isD (v.toNat : Int) = true
    ·rw [if_pos l2, hw, next, List.takeWhile_cons, if_pos (by unfold isLD; rw [l2]; simp)]
     congr 1; simp only [List.length_cons, List.length_nil]; omega
    ·rw [if_neg l2, List.takeWhile_cons, if_neg (by unfold isLD; simp [l1, l2])]; simp
theorem word_eq {n : Nat} (s : Str) (hs : s.length ≤ 9000000) (hn : s.length + 1 < n) : ref01_Word n s = some ((wrd s).length : Int) := by
 unfold ref01_Word
 rw [whileL]
 obtain ⟨m, rfl⟩ : ∃ m, n = m + 1 := ⟨n - 1, by omega⟩
 cases s with
 | nil => rw [whileC, if_neg (by simp)]; rfl
 | cons a q =>
  have h0 : idx (a :: q) 0 = some a := rfl
  rw [whileC, if_pos (by simp only [List.length_cons]; omega), h0]
  simp only [Option.bind_some]
  rw [rletter_eq]
  simp only [Option.bind_some]
  rw [wrd]
  by_cases l1 : isL (a.toNat : Int) = true
  ·rw [if_pos l1, if_pos l1]
   have := word_loop (fun s1 => some s1) (a :: q) hs q [a] m rfl (by simp) (by simp only [List.length_cons] at hn; omega)
   rw [show w64 (0 + 1) = (([a] : Str).length : Int) from rfl, this]
   congr 1
   simp only [List.length_cons, List.length_nil]; omega
  ·rw [if_neg l1, if_neg l1, if_neg (by omega)]; rfl
theorem take_all (p : UInt8 → Bool) : ∀ l : Str, (l.takeWhile p).length = l.length ↔ l.takeWhile p = l
 | [] => by simp
 | a :: l => by
  rw [List.takeWhile_cons]
  split
  ·simp only [List.length_cons, Nat.add_right_cancel_iff, List.cons.injEq, true_and]; exact take_all p l
  ·simp
theorem wrd_all (s : Str) : (wrd s).length = s.length ↔ wrd s = s := by
 cases s with
 | nil => simp [wrd]
 | cons a q =>
  rw [wrd]
  split
  ·simp only [List.length_cons, Nat.add_right_cancel_iff, List.cons.injEq, true_and]; exact take_all _ q
  ·simp
theorem rname_eq {n : Nat} (hn : 20 ≤ n) (s : Str) : ref01_Name n s = some (nameB s) := by
 unfold ref01_Name nameB
 by_cases c0 : s = []
 ·rw [if_pos c0, decide_eq_false (by simpa using c0)]; rfl
 rw [if_neg c0, decide_eq_true (by simpa using c0)]
 by_cases c1 : (s.length : Int) ≤ 12
 ·rw [if_pos c1, word_eq s (by omega) (by omega), Option.bind_some, decide_eq_true (by omega : s.length ≤ 12)]
  simp only [Bool.true_and]
  congr 1
  rw [Bool.eq_iff_iff, decide_eq_true_eq, ← wrd_all, beq_iff_eq]
  omega
 ·rw [if_neg c1, decide_eq_false (by omega : ¬ s.length ≤ 12)]; rfl
theorem name_loop (s : Str) : ∀ (suf pre : Str), s = pre ++ suf → rangeC (fun i1 (_ : Unit) (s1 : Unit) n1 => (s[i1]?).bind fun v3 => (tree_letter (v3.toNat : Int)).bind fun v4 => if v4 = true then n1 () else (tree_digit (v3.toNat : Int)).bind fun v5 => if v5 = true then n1 () else some false) (List.replicate suf.length ()) pre.length () (fun _ => some true) = some (decide ((suf.takeWhile isLD).length = suf.length)) := by
 intro suf
 induction suf with
 | nil => intro pre e; rfl
 | cons v suf ih =>
  intro pre e
  have hv : s[pre.length]? = some v := by rw [e, List.getElem?_append_right (Nat.le_refl _), Nat.sub_self]; rfl
  rw [List.length_cons, List.replicate_succ, rangeC, hv]
  simp only [Option.bind_some]
  rw [letter_eq, digit_eq]
  simp only [Option.bind_some]
  have next := ih (pre ++ [v]) (by rw [e]; simp)
  rw [List.length_append] at next
  by_cases l1 : isL (v.toNat : Int) = true
  ·rw [if_pos l1, List.takeWhile_cons, if_pos (by unfold isLD; rw [l1]; rfl)]
   refine next.trans ?_
   congr 1; exact decide_eq_decide.2 (by simp)
  ·rw [if_neg l1]
   by_cases l2 : isD (v.toNat : Int) = true
   ·rw [if_pos l2, List.takeWhile_cons, if_pos (by unfold isLD; rw [l2]; simp)]
    refine next.trans ?_
    congr 1; exact decide_eq_decide.2 (by simp)
   ·rw [if_neg l2, List.takeWhile_cons, if_neg (by unfold isLD; simp [l1, l2])]
    simp
theorem tname_eq (s : Str) : tree_Name s = some (nameB s) := by
 unfold tree_Name nameB
 by_cases c0 : s = []
 ·rw [if_pos c0, decide_eq_false (by simpa using c0)]; rfl
 rw [if_neg c0, decide_eq_true (by simpa using c0)]
 by_cases c1 : 12 < (s.length : Int)
 ·rw [if_pos c1, decide_eq_false (by omega : ¬ s.length ≤ 12)]; rfl
 rw [if_neg c1, decide_eq_true (by omega : s.length ≤ 12)]
 simp only [Bool.true_and]
 cases s with
 | nil => exact absurd rfl c0
 | cons a q =>
  simp only [List.getElem?_cons_zero, Option.bind_some]
  rw [letter_eq]
  simp only [Option.bind_some]
  rw [wrd]
  by_cases l1 : isL (a.toNat : Int) = true
  ·rw [if_pos l1, if_pos l1, rangeI, if_pos (by omega)]
   have := name_loop (a :: q) (a :: q) [] rfl
   rw [Int.toNat_natCast]
   refine this.trans ?_
   congr 1
   refine decide_eq_decide.2 ?_
   rw [take_all, List.takeWhile_cons, if_pos (by unfold isLD; rw [l1]; rfl)]
  ·rw [if_neg l1, if_neg l1]
   simp
def ixS : List Str → Str → Nat → Int
 | [], _, _ => -1
 | x :: l, w, i => if w = x then (i : Int) else ixS l w (i + 1)
theorem index_eq (l : List Str) (w : Str) (hl : l.length < 9223372036854775808) : slices_Index_Lstring_string l w = some (ixS l w 0) := by
 unfold slices_Index_Lstring_string
 rw [rangeL, if_pos hl]
 generalize 0 = i
 induction l generalizing i with
 | nil => rfl
 | cons x l ih =>
  rw [rangeC, ixS]
  split
  ·rfl
  ·exact ih (by simp only [List.length_cons] at hl; omega) (i + 1)
theorem place_eq (l : List Str) (w : Str) (hl : l.length < 9223372036854775808) : ref01_Place l w = some (ixS l w 0) := by
 unfold ref01_Place
 rw [rangeL, if_pos hl]
 generalize 0 = i
 induction l generalizing i with
 | nil => rfl
 | cons x l ih =>
  rw [rangeC, ixS]
  by_cases c : x = w
  ·rw [if_pos c, if_pos c.symm]
  ·rw [if_neg c, if_neg (fun e => c e.symm)]
   exact ih (by simp only [List.length_cons] at hl; omega) (i + 1)
def nmC (all : List Str) : List Str → Nat → Bool
 | [], _ => true
 | x :: l, i => if nameB x = true then (if 0 ≤ ixS (all.take i) x 0 then false else nmC all l (i + 1)) else false
def nmB (l : List Str) (a : Int) : Bool := decide ((l.length : Int) = a) && nmC l l 0
theorem names_eq (l : List Str) (a : Int) (hl : l.length ≤ 1000) : tree_Names l a = some (nmB l a) := by
 unfold tree_Names nmB
 by_cases c : (l.length : Int) = a
 ·rw [if_pos c, decide_eq_true c, Bool.true_and, rangeL, if_pos (by omega)]
  suffices H : ∀ (q : List Str) (i : Nat), i + q.length ≤ l.length → rangeC (fun i1 x1 (s1 : Unit) n1 =>
   (tree_Name x1).bind fun v1 =>
   if v1 = true then
    (slcT l (i1 : Int)).bind fun v2 =>
    (slices_Contains_Lstring_string v2 x1).bind fun v3 =>
    if v3 = true then
     some false
    else
     n1 ()
   else
    some false) q i () (fun s1 => some true) = some (nmC l q i) from H l 0 (by omega)
  intro q
  induction q with
  | nil => intro i _; rfl
  | cons x q ih =>
   intro i hi
   simp only [List.length_cons] at hi
   rw [rangeC, tname_eq, Option.bind_some, nmC]
   split
   ·have : slcT l (i : Int) = some (l.take i) := by unfold slcT; rw [if_pos (by omega), Int.toNat_natCast]
    rw [this, Option.bind_some]
    unfold slices_Contains_Lstring_string
    rw [index_eq _ _ (by rw [List.length_take]; omega)]
    simp only [Option.bind_some]
    by_cases d : 0 ≤ ixS (l.take i) x 0
    ·rw [if_pos (decide_eq_true d), if_pos d]
    ·rw [if_neg (by rw [decide_eq_false d]; decide), if_neg d]; exact ih (i + 1) (by omega)
   ·rfl
 ·rw [if_neg c, decide_eq_false c]; rfl
theorem rnames_eq {n : Nat} (hn : 20 ≤ n) (l : List Str) (a : Int) (hl : l.length ≤ 1000) : ref01_Names n l a = some (nmB l a) := by
 unfold ref01_Names nmB
 by_cases c : (l.length : Int) = a
 ·rw [if_pos c, decide_eq_true c, Bool.true_and, rangeL, if_pos (by omega)]
  suffices H : ∀ (q : List Str) (i : Nat), i + q.length ≤ l.length → rangeC (fun i1 x1 (s1 : Unit) n1 =>
   (ref01_Name n x1).bind fun v1 =>
   if v1 = true then
    (slcT l (i1 : Int)).bind fun v2 =>
    (ref01_Place v2 x1).bind fun v3 =>
    if 0 ≤ v3 then
     some false
    else
     n1 ()
   else
    some false) q i () (fun s1 => some true) = some (nmC l q i) from H l 0 (by omega)
  intro q
  induction q with
  | nil => intro i _; rfl
  | cons x q ih =>
   intro i hi
   simp only [List.length_cons] at hi
   rw [rangeC, rname_eq hn, Option.bind_some, nmC]
   split
   ·have : slcT l (i : Int) = some (l.take i) := by unfold slcT; rw [if_pos (by omega), Int.toNat_natCast]
    rw [this, Option.bind_some, place_eq _ _ (by rw [List.length_take]; omega)]
    simp only [Option.bind_some]
    by_cases d : 0 ≤ ixS (l.take i) x 0
    ·rw [if_pos d, if_pos d]
    ·rw [if_neg d, if_neg d]; exact ih (i + 1) (by omega)
   ·rfl
 ·rw [if_neg c, decide_eq_false c]; rfl
theorem ixS_bd : ∀ (l : List Str) (w : Str) (i : Nat), ixS l w i = -1 ∨ ∃ j x, ixS l w i = ((i + j : Nat) : Int) ∧ l[j]? = some x ∧ w = x
 | [], _, _ => .inl rfl
 | x :: l, w, i => by
  rw [ixS]
  split
  ·rename_i h; exact .inr ⟨0, x, by simp, rfl, h⟩
  ·rcases ixS_bd l w (i + 1) with h | ⟨j, y, h1, h2, h3⟩
   ·exact .inl h
   ·exact .inr ⟨j + 1, y, by rw [h1]; congr 1; omega, by simpa using h2, h3⟩
theorem ixS_mem : ∀ (l : List Str) (w : Str) (i : Nat), w ∈ l → 0 ≤ ixS l w i
 | x :: l, w, i, h => by
  rw [ixS]
  split
  ·omega
  ·rename_i c
   rcases List.mem_cons.1 h with rfl | h
   ·exact absurd rfl c
   ·exact ixS_mem l w (i + 1) h
theorem nmC_out (all : List Str) : ∀ (l : List Str) (i : Nat), all.drop i = l → nmC all l i = true → ∀ (j : Nat) x, i ≤ j → all[j]? = some x → nameB x = true ∧ x ∉ all.take j
 | [], i, hd, _, j, x, hij, hx => by
  have : all.length ≤ i := List.drop_eq_nil_iff.1 hd
  rw [List.getElem?_eq_none (by omega)] at hx; cases hx
 | y :: l, i, hd, h, j, x, hij, hx => by
  have hi : i < all.length := by
   rcases Nat.lt_or_ge i all.length with h | h
   ·exact h
   ·rw [List.drop_eq_nil_of_le h] at hd; cases hd
  rw [List.drop_eq_getElem_cons hi] at hd
  injection hd with hd1 hd2
  rw [nmC] at h
  split at h
  ·rename_i hn
   split at h
   ·cases h
   ·rename_i hix
    by_cases e : i = j
    ·subst e
     rw [List.getElem?_eq_getElem hi] at hx
     injection hx with hx
     rw [← hx, hd1]
     exact ⟨hn, fun hm => hix (ixS_mem _ _ _ hm)⟩
    ·exact nmC_out all l (i + 1) hd2 h j x (by omega) hx
  ·cases h
theorem ixS_at : ∀ (l : List Str) (i j : Nat) (x : Str), l[j]? = some x → x ∉ l.take j → ixS l x i = ((i + j : Nat) : Int)
 | [], i, j, x, h, _ => by simp at h
 | y :: l, i, 0, x, h, _ => by simp at h; subst h; rw [ixS, if_pos rfl]; rfl
 | y :: l, i, j + 1, x, h, hn => by
  rw [List.take_succ_cons, List.mem_cons] at hn
  rw [ixS, if_neg (fun e => hn (.inl e)), ixS_at l (i + 1) j x (by simpa using h) (fun hm => hn (.inr hm))]
  congr 1; omega
theorem nm_out {l : List Str} {a : Int} (h : nmB l a = true) : (l.length : Int) = a ∧ (∀ (j : Nat) x, l[j]? = some x → nameB x = true ∧ ixS l x 0 = (j : Int)) := by
 unfold nmB at h
 rw [Bool.and_eq_true, decide_eq_true_eq] at h
 refine ⟨h.1, fun j x hx => ?_⟩
 obtain ⟨h1, h2⟩ := nmC_out l l 0 rfl h.2 j x (Nat.zero_le _) hx
 exact ⟨h1, by rw [ixS_at l 0 j x hx h2]; congr 1; omega⟩
end Go.AM.S01

namespace Go.AM.S01
open Go Go.Proofs Go.AM
set_option linter.unusedVariables false
set_option maxRecDepth 100000
set_option maxHeartbeats 4000000
def skp (s : Str) : Str := s.dropWhile fun c => c == 32
theorem skp_nil : skp [] = [] := rfl
theorem skp_cons (c : UInt8) (r : Str) : skp (c :: r) = if c = 32 then skp r else c :: r := by
 unfold skp
 rw [List.dropWhile_cons]
 by_cases h : c = 32
 ·rw [if_pos h, if_pos (by simpa using h)]
 ·rw [if_neg h, if_neg (by simpa using h)]
theorem skp_len (s : Str) : (skp s).length ≤ s.length := by
 induction s with
 | nil => exact Nat.le_refl _
 | cons c r ih =>
  rw [skp_cons]
  split
  ·simp only [List.length_cons]; omega
  ·exact Nat.le_refl _
def Sf (t s : Str) : Prop := ∃ p, t = p ++ s
theorem Sf.refl (t : Str) : Sf t t := ⟨[], rfl⟩
theorem Sf.trans {a b c : Str} (h : Sf a b) (k : Sf b c) : Sf a c := by
 obtain ⟨p, rfl⟩ := h
 obtain ⟨q, rfl⟩ := k
 exact ⟨p ++ q, by rw [List.append_assoc]⟩
theorem Sf.tail {c : UInt8} {r : Str} : Sf (c :: r) r := ⟨[c], rfl⟩
theorem Sf.skp (s : Str) : Sf s (skp s) := ⟨_, (List.takeWhile_append_dropWhile (p := fun c => c == 32) (l := s)).symm⟩
theorem Sf.ld (s : Str) : Sf s (s.dropWhile isLD) := ⟨_, (List.takeWhile_append_dropWhile (p := isLD) (l := s)).symm⟩
def pos (t s : Str) : Int := ((t.length - s.length : Nat) : Int)
theorem pos_cons {t : Str} {c : UInt8} {r : Str} (h : Sf t (c :: r)) : pos t (c :: r) < (t.length : Int) ∧ idx t (pos t (c :: r)) = some c ∧ pos t (c :: r) + 1 = pos t r := by
 obtain ⟨p, rfl⟩ := h
 have e : pos (p ++ c :: r) (c :: r) = (p.length : Int) := by unfold pos; rw [List.length_append]; congr 1; omega
 rw [e]
 refine ⟨by simp only [List.length_append, List.length_cons]; omega, idx_at rfl, ?_⟩
 unfold pos; simp only [List.length_append, List.length_cons]; omega
theorem pos_nil (t : Str) : pos t [] = (t.length : Int) := rfl
theorem pos_bd (t s : Str) : 0 ≤ pos t s ∧ pos t s ≤ (t.length : Int) := by unfold pos; omega
theorem chr {c : UInt8} {k : Nat} (hk : k < 256) : ((c.toNat : Nat) : Int) = (k : Int) ↔ c = UInt8.ofNat k := by
 constructor
 ·intro h
  have : c.toNat = k := by omega
  apply UInt8.toNat.inj
  rw [this]
  simp; omega
 ·intro h; subst h
  simp; omega
theorem chr32 {c : UInt8} : ((c.toNat : Nat) : Int) = 32 ↔ c = 32 := chr (k := 32) (by omega)
theorem skip_loop {R : Type} (t : Str) (ht : t.length ≤ 9000000) (K : Int → Option R) : ∀ (s : Str) (m : Nat), Sf t s → s.length < m → whileC (fun (s1 : Int) n1 =>
 if s1 < (t.length : Int) then
  (idx t s1).bind fun v1 =>
  if (v1.toNat : Int) = 32 then
   n1 (w64 (s1 + 1))
  else
   K s1
 else
  K s1) m (pos t s) = K (pos t (skp s))
 | s, 0, _, h => by omega
 | [], m + 1, _, _ => by rw [whileC, pos_nil, if_neg (by omega), skp_nil, pos_nil]
 | c :: r, m + 1, hs, h => by
  obtain ⟨h1, h2, h3⟩ := pos_cons hs
  have hb := pos_bd t (c :: r)
  rw [whileC, if_pos h1, h2, Option.bind_some, skp_cons]
  by_cases e : c = 32
  ·rw [if_pos (chr32.2 e), if_pos e, w64_eq (by omega) (by omega), h3]
   exact skip_loop t ht K r m (hs.trans .tail) (by simpa using h)
  ·rw [if_neg (fun q => e (chr32.1 q)), if_neg e]
theorem skip_eq {t s : Str} (ht : t.length ≤ 9000000) {n : Nat} (hs : Sf t s) (hn : s.length < n) : ∃ b, tree_Reader_Skip n ⟨t, pos t s⟩ = some (b, ⟨t, pos t (skp s)⟩) := by
 unfold tree_Reader_Skip
 rw [whileL]
 exact ⟨_, skip_loop t ht (fun s1 => some (decide (pos t s < s1), (tree_Reader.mk t s1))) s n hs hn⟩
def hd0 : Str → Int
 | [] => 0
 | c :: _ => (c.toNat : Int)
theorem is_eq {t s : Str} (ht : t.length ≤ 9000000) {n : Nat} (hs : Sf t s) (hn : s.length < n) (k : Nat) (hk : k < 256) : tree_Reader_Is n ⟨t, pos t s⟩ (k : Int) = some (match skp s with
 | [] => (false, ⟨t, pos t []⟩)
 | c :: r => if c = UInt8.ofNat k then (true, ⟨t, pos t r⟩) else (false, ⟨t, pos t (c :: r)⟩)) := by
 obtain ⟨b, e⟩ := skip_eq ht hs hn
 unfold tree_Reader_Is
 rw [e, Option.bind_some]
 have hq := hs.trans (.skp s)
 revert hq
 generalize skp s = q
 intro hq
 dsimp only
 cases q with
 | nil => rw [pos_nil, if_neg (by omega)]
 | cons c r =>
  obtain ⟨h1, h2, h3⟩ := pos_cons hq
  have hb := pos_bd t (c :: r)
  rw [if_pos h1, h2, Option.bind_some]
  dsimp only
  by_cases c1 : c = UInt8.ofNat k
  ·rw [if_pos ((chr hk).2 c1), if_pos c1, w64_eq (by omega) (by omega), h3]
  ·rw [if_neg (fun q => c1 ((chr hk).1 q)), if_neg c1]
theorem take_eq' {t s : Str} (ht : t.length ≤ 9000000) {n : Nat} (hs : Sf t s) (hn : s.length < n) (k : Nat) (hk : k < 256) : tree_Reader_Take n ⟨t, pos t s⟩ (k : Int) = some (match skp s with
 | [] => (none, ⟨t, pos t []⟩)
 | c :: r => if c = UInt8.ofNat k then (some (), ⟨t, pos t r⟩) else (none, ⟨t, pos t (c :: r)⟩)) := by
 unfold tree_Reader_Take
 rw [is_eq ht hs hn k hk, Option.bind_some]
 cases skp s with
 | nil => rfl
 | cons c r =>
  dsimp only
  by_cases c1 : c = UInt8.ofNat k
  ·simp only [if_pos c1]; rfl
  ·simp only [if_neg c1]; rfl
theorem ld_loop {R : Type} (t : Str) (ht : t.length ≤ 9000000) (K : Int → Option R) : ∀ (s : Str) (m : Nat), Sf t s → s.length < m → whileC (fun (s1 : Int) n1 =>
 if s1 < (t.length : Int) then
  (idx t s1).bind fun v4 =>
  (tree_letter (v4.toNat : Int)).bind fun v5 =>
  if v5 = true then
   n1 (w64 (s1 + 1))
  else
   (tree_digit (v4.toNat : Int)).bind fun v6 =>
   if v6 = true then
    n1 (w64 (s1 + 1))
   else
    K s1
 else
  K s1) m (pos t s) = K (pos t (s.dropWhile isLD))
 | s, 0, _, h => by omega
 | [], m + 1, _, _ => by rw [whileC, pos_nil, if_neg (by omega)]; rfl
 | c :: r, m + 1, hs, h => by
  obtain ⟨h1, h2, h3⟩ := pos_cons hs
  have hb := pos_bd t (c :: r)
  have ih := ld_loop t ht K r m (hs.trans .tail) (by simpa using h)
  rw [whileC, if_pos h1, h2, Option.bind_some, letter_eq, Option.bind_some, digit_eq, Option.bind_some, List.dropWhile_cons, w64_eq (by omega) (by omega), h3]
  by_cases l1 : isL (c.toNat : Int) = true
  ·rw [if_pos l1, if_pos (by unfold isLD; rw [l1]; rfl)]; exact ih
  ·rw [if_neg l1]
   by_cases l2 : isD (c.toNat : Int) = true
   ·rw [if_pos l2, if_pos (by unfold isLD; rw [l2]; simp)]; exact ih
   ·rw [if_neg l2, if_neg (by unfold isLD; simp [l1, l2])]
theorem slc_pos {t s q w : Str} (h : Sf t s) (hw : s = w ++ q) : slc t (pos t s) (pos t q) = some w := by
 obtain ⟨p, rfl⟩ := h
 subst hw
 have e1 : pos (p ++ (w ++ q)) (w ++ q) = (p.length : Int) := by unfold pos; rw [List.length_append]; congr 1; omega
 have e2 : pos (p ++ (w ++ q)) q = ((p.length + w.length : Nat) : Int) := by unfold pos; rw [List.length_append, List.length_append]; congr 1; omega
 rw [e1, e2]
 unfold slc
 rw [if_pos (by simp only [List.length_append]; omega)]
 congr 1
 rw [Int.toNat_natCast, Int.toNat_natCast, ← List.append_assoc, show p.length + w.length = (p ++ w).length by simp, List.take_left, List.drop_left]
theorem rname_at {t s : Str} (ht : t.length ≤ 9000000) {n : Nat} (hs : Sf t s) (hn : s.length < n) : tree_Reader_Name n ⟨t, pos t s⟩ = some (if nameB ((skp s).takeWhile isLD) = true then some ((skp s).takeWhile isLD) else none, ⟨t, pos t ((skp s).dropWhile isLD)⟩) := by
 obtain ⟨b, e⟩ := skip_eq ht hs hn
 have hq := hs.trans (.skp s)
 have hl := skp_len s
 unfold tree_Reader_Name
 rw [e, Option.bind_some, whileL]
 dsimp only
 rw [ld_loop t ht _ (skp s) n hq (by omega), slc_pos hq (List.takeWhile_append_dropWhile (p := isLD)).symm, Option.bind_some, tname_eq, Option.bind_some]
 split <;> rfl
theorem wq (a : UInt8) (q : Str) : wrd (a :: q) = if isL (a.toNat : Int) = true then (a :: q).takeWhile isLD else [] := by
 rw [wrd]
 split
 ·rename_i h; rw [List.takeWhile_cons, if_pos (by unfold isLD; rw [h]; rfl)]
 ·rfl
theorem ix_name {names : List Str} {a : Int} (hv : nmB names a = true) {w : Str} (h : 0 ≤ ixS names w 0) : nameB w = true := by
 rcases ixS_bd names w 0 with e | ⟨j, x, e1, e2, rfl⟩
 ·omega
 ·exact ((nm_out hv).2 j w e2).1
theorem name_ne {w : Str} (h : nameB w = true) : w ≠ [] := by rintro rfl; simp [nameB] at h
theorem tst {names : List Str} {a : Int} (hv : nmB names a = true) (c : UInt8) (q : Str) : ((nameB ((c :: q).takeWhile isLD) = true ∧ 0 ≤ ixS names ((c :: q).takeWhile isLD) 0) → wrd (c :: q) = (c :: q).takeWhile isLD) ∧ (0 ≤ ixS names (wrd (c :: q)) 0 → nameB ((c :: q).takeWhile isLD) = true ∧ wrd (c :: q) = (c :: q).takeWhile isLD) := by
 rw [wq]
 by_cases l : isL (c.toNat : Int) = true
 ·rw [if_pos l]
  exact ⟨fun _ => rfl, fun h => ⟨ix_name hv h, rfl⟩⟩
 ·rw [if_neg l]
  refine ⟨fun h => ?_, fun h => absurd rfl (name_ne (ix_name hv h))⟩
  exfalso
  have h1 := h.1
  unfold nameB at h1
  simp only [Bool.and_eq_true, decide_eq_true_eq] at h1
  obtain ⟨h2, _, h3⟩ := h1
  rw [List.takeWhile_cons] at h2 h3
  split at h2
  ·rename_i hc
   rw [if_pos hc, wq, if_neg l] at h3; cases h3
  ·exact h2 rfl
theorem rskip {R : Type} (K : Str → Option R) : ∀ (s : Str) (m : Nat), s.length < m → s.length ≤ 9000000 → whileC (fun (s6 : Str) n6 =>
 if s6 = ([] : Str) then
  K s6
 else
  (s6[0]?).bind fun v16 =>
  if (v16.toNat : Int) = 32 then
   (slcF s6 1).bind fun v17 =>
   n6 v17
  else
   K s6) m s = K (skp s)
 | s, 0, h, _ => by omega
 | [], m + 1, _, _ => by rw [whileC, if_pos rfl, skp_nil]
 | c :: r, m + 1, h, hl => by
  rw [whileC, if_neg (by simp), List.getElem?_cons_zero, Option.bind_some, skp_cons]
  by_cases e : c = 32
  ·rw [if_pos (chr32.2 e), if_pos e, show slcF (c :: r) 1 = some r by unfold slcF; rw [if_pos (by simp only [List.length_cons]; omega)]; rfl, Option.bind_some]
   exact rskip K r m (by simpa using h) (by simp only [List.length_cons] at hl; omega)
  ·rw [if_neg (fun q => e (chr32.1 q)), if_neg e]
theorem slcF1 {c : UInt8} {r : Str} : slcF (c :: r) 1 = some r := by unfold slcF; rw [if_pos (by simp only [List.length_cons]; omega)]; rfl
theorem dw_eq (q : Str) : q.drop (q.takeWhile isLD).length = q.dropWhile isLD := by
 conv => lhs; arg 2; rw [← List.takeWhile_append_dropWhile (p := isLD) (l := q)]
 rw [List.drop_left]
theorem cat_ok {a b : Str} (h : a.length + b.length ≤ 140737488355328) : cat a b = some (a ++ b) := if_pos h
theorem strB_ofStr (s : Str) : strB (ofStr s) = s := by
 unfold strB ofStr
 rw [List.map_map]
 conv => rhs; rw [← List.map_id s]
 refine List.map_congr_left fun u _ => ?_
 show UInt8.ofNat (((u.toNat : Nat) : Int).toNat) = u
 rw [Int.toNat_natCast]
 exact UInt8.ofNat_toNat
theorem name_out {w : Str} (h : nameB w = true) : (∃ c q, w = c :: q ∧ isL (c.toNat : Int) = true) ∧ w.takeWhile isLD = w := by
 have h' := h
 unfold nameB at h
 simp only [Bool.and_eq_true, decide_eq_true_eq] at h
 obtain ⟨h1, h2, h3⟩ := h
 cases w with
 | nil => exact absurd rfl h1
 | cons c q =>
  rw [wq] at h3
  split at h3
  ·rename_i hc; exact ⟨⟨c, q, rfl, hc⟩, h3⟩
  ·cases h3
theorem tw_mem {w : Str} (h : w.takeWhile isLD = w) : ∀ x ∈ w, isLD x = true := by
 induction w with
 | nil => intro x hx; cases hx
 | cons c q ih =>
  rw [List.takeWhile_cons] at h
  split at h
  ·rename_i hc
   injection h with _ h
   intro x hx
   rcases List.mem_cons.1 hx with rfl | hx
   ·exact hc
   ·exact ih h x hx
  ·cases h
theorem tw_app {w T : Str} (h : ∀ x ∈ w, isLD x = true) (hT : T.takeWhile isLD = []) : (w ++ T).takeWhile isLD = w ∧ (w ++ T).dropWhile isLD = T := by
 have hT' : T.dropWhile isLD = T := by have := List.takeWhile_append_dropWhile (p := isLD) (l := T); rw [hT] at this; exact this
 induction w with
 | nil => exact ⟨hT, hT'⟩
 | cons c q ih =>
  obtain ⟨i1, i2⟩ := ih fun x hx => h x (List.mem_cons_of_mem _ hx)
  have hc := h c (List.mem_cons_self ..)
  rw [List.cons_append, List.takeWhile_cons, if_pos hc, List.dropWhile_cons, if_pos hc, i1]
  exact ⟨rfl, i2⟩
theorem pos_self (t : Str) : pos t t = 0 := by unfold pos; omega
theorem end_eq {t s : Str} (ht : t.length ≤ 9000000) {n : Nat} (hs : Sf t s) (hn : s.length < n) : tree_Reader_End n ⟨t, pos t s⟩ = some (decide (skp s = []), ⟨t, pos t (skp s)⟩) := by
 obtain ⟨b, e⟩ := skip_eq ht hs hn
 unfold tree_Reader_End
 rw [e, Option.bind_some]
 have hq := hs.trans (.skp s)
 generalize skp s = q at hq ⊢
 dsimp only
 congr 1
 cases q with
 | nil => rw [pos_nil, decide_eq_true rfl, beq_self_eq_true]
 | cons c r =>
  have := (pos_cons hq).1
  rw [decide_eq_false (by simp), beq_eq_false_iff_ne.2 (by omega)]
theorem name_len {w : Str} (h : nameB w = true) : w.length ≤ 12 := by
 unfold nameB at h
 simp only [Bool.and_eq_true, decide_eq_true_eq] at h
 exact h.2.1
theorem ofStr_len (a : Str) : (ofStr a).length = a.length := List.length_map ..
theorem known_eq (l : List Str) (w : Str) (hl : l.length ≤ 1000) : tree_Known l w = some (if 0 ≤ ixS l w 0 then some (ixS l w 0) else none) := by
 unfold tree_Known
 rw [index_eq l w (by omega), Option.bind_some]
 by_cases c : 0 ≤ ixS l w 0
 ·rw [if_pos c, if_neg (by omega)]
 ·rw [if_neg c, if_pos (by omega)]
end Go.AM.S01

namespace Go.AM.S01
open Go Go.Proofs Go.AM
set_option linter.unusedVariables false
set_option maxRecDepth 100000
set_option maxHeartbeats 4000000
def tk (k : UInt8) (s : Str) : Option Str := match skp s with
 | [] => none
 | c :: r => if c = k then some r else none
def wd (s : Str) : Str := (skp s).takeWhile isLD
def aft (s : Str) : Str := (skp s).dropWhile isLD
def PK (rd : Str → Option (Tree × Str)) : Nat → Bool → Str → List Tree → Option (List Tree × Str)
 | 0, _, s, acc => some (acc, s)
 | k + 1, b, s, acc => (if b = true then tk 44 s else some s).bind fun s1 => (rd s1).bind fun p => PK rd k true p.2 (acc ++ [p.1])
def PT (names : List Str) (r : List Int) : Nat → Str → Option (Tree × Str)
 | 0, _ => none
 | f + 1, s => if nameB (wd s) = true ∧ 0 ≤ ixS names (wd s) 0 then
  (if rk r (ixS names (wd s) 0) = 0 then some (⟨ixS names (wd s) 0, []⟩, aft s) else
   (tk 40 (aft s)).bind fun s1 => (PK (PT names r f) (rk r (ixS names (wd s) 0)).toNat false s1 []).bind fun p => (tk 41 p.2).bind fun s2 => some (⟨ixS names (wd s) 0, p.1⟩, s2))
  else none
theorem tk_out {k : UInt8} {s r : Str} (h : tk k s = some r) : Sf s r ∧ r.length + 1 ≤ s.length := by
 unfold tk at h
 have hs := Sf.skp s
 have hl := skp_len s
 revert h hs hl
 generalize skp s = q
 intro h hs hl
 cases q with
 | nil => cases h
 | cons c q =>
  dsimp only at h
  split at h
  ·injection h with h; subst h
   exact ⟨hs.trans .tail, by simpa using hl⟩
  ·cases h
theorem aft_out {s : Str} (h : nameB (wd s) = true) : Sf s (aft s) ∧ (aft s).length + 1 ≤ s.length := by
 unfold wd at h
 unfold aft
 have hs := Sf.skp s
 have hl := skp_len s
 revert h hs hl
 generalize skp s = q
 intro h hs hl
 refine ⟨hs.trans (.ld q), ?_⟩
 have e := congrArg List.length (List.takeWhile_append_dropWhile (p := isLD) (l := q))
 rw [List.length_append] at e
 have : q.takeWhile isLD ≠ [] := name_ne h
 have : (q.takeWhile isLD).length ≠ 0 := fun z => this (List.length_eq_zero_iff.1 z)
 omega
theorem tsA : ∀ (l : List Tree) (x : Tree), tsL (l ++ [x]) = tsL l + tsT x
 | [], x => by rw [List.nil_append, tsL, tsL, tsL]; omega
 | y :: l, x => by rw [List.cons_append, tsL, tsL, tsA l x]; omega
def RdOk (rd : Str → Option (Tree × Str)) : Prop := ∀ s t q, rd s = some (t, q) → Sf s q ∧ tsT t + q.length ≤ s.length
theorem PK_out {rd : Str → Option (Tree × Str)} (hrd : RdOk rd) : ∀ (k : Nat) (b : Bool) (s : Str) (acc l : List Tree) (q : Str), PK rd k b s acc = some (l, q) → Sf s q ∧ tsL l + q.length ≤ tsL acc + s.length
 | 0, b, s, acc, l, q, h => by rw [PK] at h; injection h with h; injection h with h1 h2; subst h1; subst h2; exact ⟨.refl _, Nat.le_refl _⟩
 | k + 1, b, s, acc, l, q, h => by
  rw [PK] at h
  obtain ⟨s1, h1, h⟩ := Option.bind_eq_some_iff.1 h
  obtain ⟨⟨t, s2⟩, h2, h⟩ := Option.bind_eq_some_iff.1 h
  obtain ⟨a1, a2⟩ := hrd _ _ _ h2
  obtain ⟨b1, b2⟩ := PK_out hrd k true s2 _ l q h
  rw [tsA] at b2
  have : Sf s s1 ∧ s1.length ≤ s.length := by
   split at h1
   ·obtain ⟨c1, c2⟩ := tk_out h1; exact ⟨c1, by omega⟩
   ·injection h1 with h1; subst h1; exact ⟨.refl _, Nat.le_refl _⟩
  exact ⟨(this.1.trans a1).trans b1, by have := this.2; dsimp only at b2; omega⟩
theorem PT_out (names : List Str) (r : List Int) : ∀ f, RdOk (PT names r f) := by
 intro f
 induction f with
 | zero => intro s t q h; rw [PT] at h; cases h
 | succ f ih =>
  intro s t q h
  rw [PT] at h
  split at h
  ·rename_i hn
   obtain ⟨a1, a2⟩ := aft_out hn.1
   split at h
   ·injection h with h; injection h with h1 h2; subst h1; subst h2
    refine ⟨a1, ?_⟩
    rw [tsT, tsL]; omega
   ·obtain ⟨s1, h1, h⟩ := Option.bind_eq_some_iff.1 h
    obtain ⟨⟨l, s2⟩, h2, h⟩ := Option.bind_eq_some_iff.1 h
    obtain ⟨s3, h3, h⟩ := Option.bind_eq_some_iff.1 h
    injection h with h; injection h with e1 e2; subst e1; subst e2
    obtain ⟨b1, b2⟩ := tk_out h1
    obtain ⟨c1, c2⟩ := PK_out ih _ _ _ _ _ _ h2
    obtain ⟨d1, d2⟩ := tk_out h3
    rw [tsL] at c2
    refine ⟨((a1.trans b1).trans c1).trans d1, ?_⟩
    rw [tsT]; dsimp only at d2 ⊢; omega
  ·cases h
theorem rk_bd {r : List Int} (h : vA r = true) (i : Int) : 0 ≤ rk r i ∧ rk r i ≤ 3 := by
 unfold vA at h
 rw [Bool.and_eq_true, List.all_eq_true] at h
 unfold rk
 cases e : r[i.toNat]? with
 | none => simp
 | some x => simpa using h.2 x (List.mem_of_getElem? e)
def Rp (t : Str) (o : Option (Option Tree × tree_Reader)) : Option (Tree × Str) → Prop
 | none => ∃ x, o = some (none, x)
 | some (h, r) => o = some (some h, ⟨t, pos t r⟩)
theorem take_tk {t s : Str} (ht : t.length ≤ 9000000) {n : Nat} (hs : Sf t s) (hn : s.length < n) (k : Nat) (hk : k < 256) : (tk (UInt8.ofNat k) s = none → ∃ x, tree_Reader_Take n ⟨t, pos t s⟩ (k : Int) = some (none, x)) ∧ ∀ r, tk (UInt8.ofNat k) s = some r → tree_Reader_Take n ⟨t, pos t s⟩ (k : Int) = some (some (), ⟨t, pos t r⟩) := by
 rw [take_eq' ht hs hn k hk]
 unfold tk
 cases skp s with
 | nil => exact ⟨fun _ => ⟨_, rfl⟩, fun r h => (by cases h)⟩
 | cons c q =>
  dsimp only
  by_cases e : c = UInt8.ofNat k
  ·rw [if_pos e, if_pos e]
   exact ⟨fun h => (by cases h), fun r h => (by injection h with h; rw [h])⟩
  ·rw [if_neg e, if_neg e]
   exact ⟨fun _ => ⟨_, rfl⟩, fun r h => (by cases h)⟩
def BD (n : Nat) (a1 : Alphabet) (a2 : List Str) (i1 : Nat) (_ : Unit) (s1 : Str × Int × List Tree) (n1 : Str × Int × List Tree → Option (Option Tree × tree_Reader)) : Option (Option Tree × tree_Reader) :=
 if 0 < (i1 : Int) then
  (tree_Reader_Take n (tree_Reader.mk s1.1 s1.2.1) 44).bind fun v6 =>
  pn v6.1 (
   some (none, v6.2)) fun w5 =>
  (tree_Reader_tree n v6.2 a1 a2).bind fun v7 =>
  pn v7.1 (
   some (none, v7.2)) fun w6 =>
  (app 32 s1.2.2 [w6]).bind fun v8 =>
  n1 (v7.2.text, v7.2.at_, v8)
 else
  (tree_Reader_tree n (tree_Reader.mk s1.1 s1.2.1) a1 a2).bind fun v9 =>
  pn v9.1 (
   some (none, v9.2)) fun w7 =>
  (app 32 s1.2.2 [w7]).bind fun v10 =>
  n1 (v9.2.text, v9.2.at_, v10)
theorem bd_loop {t : Str} {names : List Str} {r : List Int} {n : Nat} {rd : Str → Option (Tree × Str)} (ht : t.length ≤ 90000) (hrd : RdOk rd) {N : Nat} (hNn : N < n) (K : Str × Int × List Tree → Option (Option Tree × tree_Reader))
 (ih : ∀ s, Sf t s → s.length ≤ N → Rp t (tree_Reader_tree n ⟨t, pos t s⟩ ⟨r⟩ names) (rd s)) : ∀ (k i : Nat) (s : Str) (acc : List Tree), Sf t s → s.length ≤ N → acc.length + k ≤ 1000 →
 (match PK rd k (decide (0 < i)) s acc with | none => ∃ x, rangeC (BD n ⟨r⟩ names) (List.replicate k ()) i (t, pos t s, acc) K = some (none, x) | some (l, q) => rangeC (BD n ⟨r⟩ names) (List.replicate k ()) i (t, pos t s, acc) K = K (t, pos t q, l))
 | 0, i, s, acc, hs, hl, ha => by rw [PK]; rfl
 | k + 1, i, s, acc, hs, hl, ha => by
  rw [PK, List.replicate_succ, rangeC]
  have tail : ∀ s1, Sf t s1 → s1.length ≤ N → ∀ o : Option (Option Tree × tree_Reader), o = tree_Reader_tree n ⟨t, pos t s1⟩ ⟨r⟩ names →
   (match ((rd s1).bind fun p => PK rd k true p.2 (acc ++ [p.1])) with | none => ∃ x, (o.bind fun v9 => pn v9.1 (some (none, v9.2)) fun w7 => (app 32 acc [w7]).bind fun v10 => rangeC (BD n ⟨r⟩ names) (List.replicate k ()) (i + 1) (v9.2.text, v9.2.at_, v10) K) = some (none, x) | some (l, q) => (o.bind fun v9 => pn v9.1 (some (none, v9.2)) fun w7 => (app 32 acc [w7]).bind fun v10 => rangeC (BD n ⟨r⟩ names) (List.replicate k ()) (i + 1) (v9.2.text, v9.2.at_, v10) K) = K (t, pos t q, l)) := by
   intro s1 hs1 hl1 o ho
   have := ih s1 hs1 hl1
   rw [← ho] at this
   cases hp : rd s1 with
   | none =>
    rw [hp] at this
    obtain ⟨x, hx⟩ := this
    rw [hx]
    exact ⟨x, rfl⟩
   | some p =>
    obtain ⟨tr, q⟩ := p
    rw [hp] at this
    simp only [Rp] at this
    obtain ⟨b1, b2⟩ := hrd _ _ _ hp
    rw [this]
    simp only [Option.bind_some, pn]
    rw [app_ok (by simp only [List.length_cons, List.length_nil]; omega), Option.bind_some]
    have := bd_loop ht hrd hNn K ih k (i + 1) q (acc ++ [tr]) (hs1.trans b1) (by omega) (by simp only [List.length_append, List.length_cons, List.length_nil]; omega)
    rw [decide_eq_true (by omega : 0 < i + 1)] at this
    exact this
  unfold BD
  dsimp only
  by_cases hi : 0 < i
  ·rw [decide_eq_true hi, if_pos rfl, if_pos (by omega)]
   obtain ⟨t1, t2⟩ := take_tk (by omega) hs (n := n) (by omega) 44 (by omega)
   cases hk : tk 44 s with
   | none =>
    obtain ⟨x, hx⟩ := t1 hk
    rw [show (44 : Int) = ((44 : Nat) : Int) from rfl, hx]
    exact ⟨x, rfl⟩
   | some s1 =>
    obtain ⟨c1, c2⟩ := tk_out hk
    rw [show (44 : Int) = ((44 : Nat) : Int) from rfl, t2 s1 hk]
    simp only [Option.bind_some]
    exact tail s1 (hs.trans c1) (by omega) _ rfl
  ·rw [decide_eq_false hi, if_neg Bool.false_ne_true, if_neg (by omega)]
   simp only [Option.bind_some]
   exact tail s hs hl _ rfl
theorem rd_eq {t : Str} {names : List Str} {r : List Int} (ht : t.length ≤ 90000) (hv : vA r = true) (hN : nmB names (r.length : Int) = true) (hl : names.length ≤ 1000) : ∀ (f n : Nat) (s : Str), Sf t s → s.length < f → s.length + 4 ≤ n → Rp t (tree_Reader_tree n ⟨t, pos t s⟩ ⟨r⟩ names) (PT names r f s) := by
 intro f
 induction f with
 | zero => intro n s _ h; omega
 | succ f ih =>
  intro n s hs hf hn
  obtain ⟨k, rfl⟩ : ∃ k, n = k + 1 := ⟨n - 1, by omega⟩
  rw [tree_Reader_tree, PT, rname_at (by omega) hs (by omega), Option.bind_some]
  have hlen := (nm_out hN).1
  by_cases c2 : nameB (wd s) = true
  ·have c2' : nameB ((skp s).takeWhile isLD) = true := c2
   simp only [if_pos c2', pn]
   rw [known_eq _ _ hl, Option.bind_some]
   by_cases c3 : 0 ≤ ixS names (wd s) 0
   ·rw [if_pos (And.intro c2 c3), if_pos (show 0 ≤ ixS names ((skp s).takeWhile isLD) 0 from c3)]
    show Rp t ((idx r (ixS names (wd s) 0)).bind _) _
    obtain ⟨j, x, e1, e2, _⟩ : ∃ j x, ixS names (wd s) 0 = ((0 + j : Nat) : Int) ∧ names[j]? = some x ∧ wd s = x := by
     rcases ixS_bd names (wd s) 0 with e | e
     ·omega
     ·exact e
    have hj := (List.getElem?_eq_some_iff.1 e2).1
    rw [rk_get c3 (by omega), Option.bind_some]
    obtain ⟨r0, r1⟩ := rk_bd hv (ixS names (wd s) 0)
    obtain ⟨a1, a2⟩ := aft_out c2
    by_cases c4 : rk r (ixS names (wd s) 0) = 0
    ·rw [if_pos c4, if_pos c4]; rfl
    ·rw [if_neg c4, if_neg c4]
     obtain ⟨t1, t2⟩ := take_tk (by omega) (hs.trans a1) (n := k) (by omega) 40 (by omega)
     cases hk : tk 40 (aft s) with
     | none =>
      obtain ⟨x, hx⟩ := t1 hk
      have hx : tree_Reader_Take k ⟨t, pos t ((skp s).dropWhile isLD)⟩ 40 = some (none, x) := hx
      rw [hx]
      exact ⟨x, rfl⟩
     | some s1 =>
      obtain ⟨d1, d2⟩ := tk_out hk
      have hx : tree_Reader_Take k ⟨t, pos t ((skp s).dropWhile isLD)⟩ 40 = some (some (), ⟨t, pos t s1⟩) := t2 s1 hk
      rw [hx]
      simp only [Option.bind_some]
      rw [rangeI, if_pos (by omega)]
      have hloop := bd_loop (r := r) (names := names) ht (PT_out names r f) (n := k) (N := s1.length) (by omega) (fun s1 => (tree_Reader_Take k (tree_Reader.mk s1.1 s1.2.1) 41).bind fun v5 => pn v5.1 ( some (none, v5.2)) fun w4 => some (some (Tree.mk (ixS names (wd s) 0) s1.2.2), v5.2)) (fun s2 h2 h3 => ih k s2 h2 (by omega) (by omega)) (rk r (ixS names (wd s) 0)).toNat 0 s1 [] ((hs.trans a1).trans d1) (Nat.le_refl _) (by simp only [List.length_nil]; omega)
      rw [decide_eq_false (by omega : ¬ 0 < 0)] at hloop
      cases hp : PK (PT names r f) (rk r (ixS names (wd s) 0)).toNat false s1 [] with
      | none =>
       rw [hp] at hloop
       obtain ⟨x, hx⟩ := hloop
       exact ⟨x, hx⟩
      | some p =>
       obtain ⟨l, q⟩ := p
       rw [hp] at hloop
       dsimp only at hloop
       simp only [Option.bind_some]
       obtain ⟨b1, b2⟩ := PK_out (PT_out names r f) _ _ _ _ _ _ hp
       rw [tsL] at b2
       have hq := ((hs.trans a1).trans d1).trans b1
       obtain ⟨t3, t4⟩ := take_tk (by omega) hq (n := k) (by omega) 41 (by omega)
       refine cast (congrArg (fun z => Rp t z _) hloop.symm) ?_
       cases hk2 : tk 41 q with
       | none =>
        obtain ⟨x, hx⟩ := t3 hk2
        have hx : tree_Reader_Take k ⟨t, pos t q⟩ 41 = some (none, x) := hx
        rw [hx]
        exact ⟨x, rfl⟩
       | some s2 =>
        have hx : tree_Reader_Take k ⟨t, pos t q⟩ 41 = some (some (), ⟨t, pos t s2⟩) := t4 s2 hk2
        rw [hx]
        rfl
   ·rw [if_neg (show ¬ 0 ≤ ixS names ((skp s).takeWhile isLD) 0 from c3), if_neg (fun e : nameB (wd s) = true ∧ 0 ≤ ixS names (wd s) 0 => c3 e.2)]
    exact ⟨_, rfl⟩
  ·have c2' : ¬ nameB ((skp s).takeWhile isLD) = true := c2
   rw [if_neg (fun e : nameB (wd s) = true ∧ 0 ≤ ixS names (wd s) 0 => c2 e.1)]
   simp only [if_neg c2', pn]
   exact ⟨_, rfl⟩
end Go.AM.S01

namespace Go.AM.S01
open Go Go.Proofs Go.AM
set_option linter.unusedVariables false
set_option maxRecDepth 100000
set_option maxHeartbeats 4000000
theorem blanks_eq {n : Nat} {a : Alphabet} {nm : List Str} {s : Str} {b : Bool} (hn : s.length < n) (hl : s.length ≤ 9000000) : ref01_reader_blanks n ⟨a, nm, s, b⟩ = some ⟨a, nm, skp s, b⟩ := by
 unfold ref01_reader_blanks
 rw [whileL]
 exact rskip (fun s1 => some (ref01_reader.mk a nm s1 b)) s n hn hl
theorem must_eq {n : Nat} {a : Alphabet} {nm : List Str} {s : Str} (k : Nat) (hk : k < 256) (hn : s.length < n) (hl : s.length ≤ 9000000) : ref01_reader_must n ⟨a, nm, s, false⟩ (k : Int) = some (match tk (UInt8.ofNat k) s with
 | some r => ⟨a, nm, r, false⟩
 | none => ⟨a, nm, skp s, true⟩) := by
 unfold ref01_reader_must
 rw [blanks_eq hn hl, Option.bind_some]
 unfold tk
 dsimp only
 cases skp s with
 | nil => rw [if_pos rfl]
 | cons c q =>
  rw [if_neg (by simp), List.getElem?_cons_zero, Option.bind_some]
  dsimp only
  by_cases e : c = UInt8.ofNat k
  ·rw [if_pos ((chr hk).2 e), if_pos e, slcF1, Option.bind_some]
  ·rw [if_neg (fun z => e ((chr hk).1 z)), if_neg e]
def RBad (o : Option (Tree × ref01_reader)) : Prop := ∃ l a nm s, List.length s ≤ 90000 ∧ o = some (l, ⟨a, nm, s, true⟩)
def Rr (names : List Str) (r : List Int) (o : Option (Tree × ref01_reader)) : Option (Tree × Str) → Prop
 | none => RBad o
 | some (t, q) => o = some (t, ⟨⟨r⟩, names, q, false⟩)
def RD (n : Nat) (v4 : Int) (i1 : Nat) (_ : Unit) (s1 : (List Int) × (List Str) × Str × Bool × (List Tree)) (n1 : (List Int) × (List Str) × Str × Bool × (List Tree) → Option (Tree × ref01_reader)) : Option (Tree × ref01_reader) :=
 if (i1 : Int) = 0 then
  (ref01_reader_must n (ref01_reader.mk (Alphabet.mk s1.1) s1.2.1 s1.2.2.1 s1.2.2.2.1) 40).bind fun v9 =>
  if v9.bad = true then
   some ((Tree.mk v4 s1.2.2.2.2), (ref01_reader.mk v9.a v9.names v9.s true))
  else
   (ref01_reader_tree n (ref01_reader.mk v9.a v9.names v9.s false)).bind fun v10 =>
   (app 32 s1.2.2.2.2 [v10.1]).bind fun v11 =>
   if v10.2.bad = true then
    some ((Tree.mk v4 v11), (ref01_reader.mk v10.2.a v10.2.names v10.2.s true))
   else
    n1 (v10.2.a.Ranks, v10.2.names, v10.2.s, false, v11)
 else
  (ref01_reader_must n (ref01_reader.mk (Alphabet.mk s1.1) s1.2.1 s1.2.2.1 s1.2.2.2.1) 44).bind fun v12 =>
  if v12.bad = true then
   some ((Tree.mk v4 s1.2.2.2.2), (ref01_reader.mk v12.a v12.names v12.s true))
  else
   (ref01_reader_tree n (ref01_reader.mk v12.a v12.names v12.s false)).bind fun v13 =>
   (app 32 s1.2.2.2.2 [v13.1]).bind fun v14 =>
   if v13.2.bad = true then
    some ((Tree.mk v4 v14), (ref01_reader.mk v13.2.a v13.2.names v13.2.s true))
   else
    n1 (v13.2.a.Ranks, v13.2.names, v13.2.s, false, v14)
theorem rd_loop {names : List Str} {r : List Int} {n : Nat} {v4 : Int} {rd : Str → Option (Tree × Str)} (hrd : RdOk rd) {N : Nat} (hNn : N < n) (hN9 : N ≤ 90000) (K : (List Int) × (List Str) × Str × Bool × (List Tree) → Option (Tree × ref01_reader))
 (ih : ∀ s, s.length ≤ N → Rr names r (ref01_reader_tree n ⟨⟨r⟩, names, s, false⟩) (rd s)) : ∀ (k i : Nat) (s : Str) (acc : List Tree), s.length ≤ N → acc.length + k ≤ 1000 →
 (match (if 0 < i then PK rd k true s acc else if k = 0 then some (acc, s) else (tk 40 s).bind fun s1 => PK rd k false s1 acc) with | none => RBad (rangeC (RD n v4) (List.replicate k ()) i (r, names, s, false, acc) K) | some (l, q) => rangeC (RD n v4) (List.replicate k ()) i (r, names, s, false, acc) K = K (r, names, q, false, l))
 | 0, i, s, acc, hl, ha => by
  by_cases hi : 0 < i
  ·rw [if_pos hi, PK]; rfl
  ·rw [if_neg hi, if_pos rfl]; rfl
 | k + 1, i, s, acc, hl, ha => by
  rw [List.replicate_succ, rangeC]
  have tail : ∀ s1 : Str, s1.length ≤ N → ∀ o : Option (Tree × ref01_reader), o = ref01_reader_tree n ⟨⟨r⟩, names, s1, false⟩ →
   (match ((rd s1).bind fun p => PK rd k true p.2 (acc ++ [p.1])) with | none => RBad (o.bind fun v10 => (app 32 acc [v10.1]).bind fun v11 => if v10.2.bad = true then some ((Tree.mk v4 v11), (ref01_reader.mk v10.2.a v10.2.names v10.2.s true)) else rangeC (RD n v4) (List.replicate k ()) (i + 1) (v10.2.a.Ranks, v10.2.names, v10.2.s, false, v11) K) | some (l, q) => (o.bind fun v10 => (app 32 acc [v10.1]).bind fun v11 => if v10.2.bad = true then some ((Tree.mk v4 v11), (ref01_reader.mk v10.2.a v10.2.names v10.2.s true)) else rangeC (RD n v4) (List.replicate k ()) (i + 1) (v10.2.a.Ranks, v10.2.names, v10.2.s, false, v11) K) = K (r, names, q, false, l)) := by
   intro s1 hl1 o ho
   have := ih s1 hl1
   rw [← ho] at this
   cases hp : rd s1 with
   | none =>
    rw [hp] at this
    obtain ⟨l, a, nm, z, hz, hx⟩ := this
    rw [hx]
    simp only [Option.bind_none, Option.bind_some]
    rw [app_ok (by simp only [List.length_cons, List.length_nil]; omega), Option.bind_some]
    simp only [if_true]
    exact ⟨_, _, _, _, hz, rfl⟩
   | some p =>
    obtain ⟨tr, q⟩ := p
    rw [hp] at this
    simp only [Rr] at this
    obtain ⟨b1, b2⟩ := hrd _ _ _ hp
    rw [this]
    simp only [Option.bind_some]
    rw [app_ok (by simp only [List.length_cons, List.length_nil]; omega), Option.bind_some]
    simp only [Bool.false_eq_true, if_false]
    have := rd_loop (v4 := v4) hrd hNn hN9 K ih k (i + 1) q (acc ++ [tr]) (by omega) (by simp only [List.length_append, List.length_cons, List.length_nil]; omega)
    rw [if_pos (by omega)] at this
    exact this
  unfold RD
  dsimp only
  by_cases hi : 0 < i
  ·rw [if_pos hi, if_neg (by omega), PK, if_pos rfl, show (44 : Int) = ((44 : Nat) : Int) from rfl, must_eq 44 (by omega) (by omega) (by omega), Option.bind_some, show UInt8.ofNat 44 = 44 from rfl]
   cases hk : tk 44 s with
   | none => exact ⟨_, _, _, _, (by have := skp_len s; omega : (skp s).length ≤ 90000), rfl⟩
   | some s1 =>
    obtain ⟨c1, c2⟩ := tk_out hk
    simp only [Option.bind_some, Bool.false_eq_true, if_false]
    exact tail s1 (by omega) _ rfl
  ·rw [if_neg hi, if_neg (show ¬ k + 1 = 0 by omega), if_pos (show (i : Int) = 0 by omega), show (40 : Int) = ((40 : Nat) : Int) from rfl, must_eq 40 (by omega) (by omega) (by omega), Option.bind_some, show UInt8.ofNat 40 = 40 from rfl]
   cases hk : tk 40 s with
   | none => exact ⟨_, _, _, _, (by have := skp_len s; omega : (skp s).length ≤ 90000), rfl⟩
   | some s1 =>
    obtain ⟨c1, c2⟩ := tk_out hk
    simp only [Option.bind_some, PK, Bool.false_eq_true, if_false]
    exact tail s1 (by omega) _ rfl
theorem rrd_eq {names : List Str} {r : List Int} (hv : vA r = true) (hN : nmB names (r.length : Int) = true) (hl : names.length ≤ 1000) : ∀ (f n : Nat) (s : Str), s.length < f → s.length + 4 ≤ n → s.length ≤ 90000 → Rr names r (ref01_reader_tree n ⟨⟨r⟩, names, s, false⟩) (PT names r f s) := by
 intro f
 induction f with
 | zero => intro n s h; omega
 | succ f ih =>
  intro n s hf hn h9
  obtain ⟨k, rfl⟩ : ∃ k, n = k + 1 := ⟨n - 1, by omega⟩
  have hlen := (nm_out hN).1
  have hks := skp_len s
  rw [ref01_reader_tree, PT, blanks_eq (by omega) (by omega), Option.bind_some]
  dsimp only
  rw [word_eq _ (by omega) (by omega), Option.bind_some]
  have hw1 : ∃ z, skp s = wrd (skp s) ++ z := by
   cases skp s with
   | nil => exact ⟨[], rfl⟩
   | cons c q =>
    rw [wq]
    split
    ·exact ⟨_, (List.takeWhile_append_dropWhile (p := isLD)).symm⟩
    ·exact ⟨_, rfl⟩
  obtain ⟨z, hz⟩ := hw1
  have hle : ((wrd (skp s)).length : Int) ≤ ((skp s).length : Int) := by
   have := congrArg List.length hz
   rw [List.length_append] at this; omega
  have hs1 : slcT (skp s) ((wrd (skp s)).length : Int) = some (wrd (skp s)) := by
   unfold slcT
   rw [if_pos ⟨by omega, hle⟩, Int.toNat_natCast]
   conv => lhs; arg 1; arg 2; rw [hz]
   rw [List.take_left]
  rw [hs1, Option.bind_some, place_eq _ _ (by omega), Option.bind_some]
  have ht : ((nameB (wd s) = true ∧ 0 ≤ ixS names (wd s) 0) → wrd (skp s) = wd s) ∧ (0 ≤ ixS names (wrd (skp s)) 0 → nameB (wd s) = true ∧ wrd (skp s) = wd s) := by
   unfold wd
   cases skp s with
   | nil => exact ⟨fun h => absurd rfl (name_ne h.1), fun h => absurd rfl (name_ne (ix_name hN h))⟩
   | cons c q => exact tst hN c q
  by_cases c3 : 0 ≤ ixS names (wrd (skp s)) 0
  ·obtain ⟨u1, u2⟩ := ht.2 c3
   rw [u2] at c3 ⊢
   rw [if_neg (by omega), if_pos (And.intro u1 c3)]
   have hs2 : slcF (skp s) ((wd s).length : Int) = some (aft s) := by
    unfold slcF wd aft
    rw [if_pos ⟨by omega, by have := (List.takeWhile_sublist (p := isLD) (l := skp s)).length_le; omega⟩, Int.toNat_natCast, dw_eq]
   rw [hs2, Option.bind_some]
   obtain ⟨j, x, e1, e2, _⟩ : ∃ j x, ixS names (wd s) 0 = ((0 + j : Nat) : Int) ∧ names[j]? = some x ∧ wd s = x := by
    rcases ixS_bd names (wd s) 0 with e | e
    ·omega
    ·exact e
   have hj := (List.getElem?_eq_some_iff.1 e2).1
   rw [rk_get c3 (by omega), Option.bind_some]
   obtain ⟨r0, r1⟩ := rk_bd hv (ixS names (wd s) 0)
   obtain ⟨a1, a2⟩ := aft_out u1
   rw [rangeI, if_pos (by omega)]
   have hloop := rd_loop (r := r) (names := names) (v4 := ixS names (wd s) 0) (PT_out names r f) (n := k) (N := (aft s).length) (by omega) (by omega) (fun s1 => (idx s1.1 (ixS names (wd s) 0)).bind fun v7 => if 0 < v7 then (ref01_reader_must k (ref01_reader.mk (Alphabet.mk s1.1) s1.2.1 s1.2.2.1 s1.2.2.2.1) 41).bind fun v8 => some ((Tree.mk (ixS names (wd s) 0) s1.2.2.2.2), v8) else some ((Tree.mk (ixS names (wd s) 0) s1.2.2.2.2), (ref01_reader.mk (Alphabet.mk s1.1) s1.2.1 s1.2.2.1 s1.2.2.2.1))) (fun s2 h3 => ih k s2 (by omega) (by omega) (by omega)) (rk r (ixS names (wd s) 0)).toNat 0 (aft s) [] (Nat.le_refl _) (by simp only [List.length_nil]; omega)
   rw [if_neg (by omega)] at hloop
   by_cases c4 : rk r (ixS names (wd s) 0) = 0
   ·rw [if_pos c4]
    rw [if_pos (by omega)] at hloop
    dsimp only at hloop
    refine cast (congrArg (fun z => Rr names r z _) hloop.symm) ?_
    rw [rk_get c3 (by omega), Option.bind_some, if_neg (by omega)]
    rfl
   ·rw [if_neg c4]
    rw [if_neg (by omega)] at hloop
    cases hk : tk 40 (aft s) with
    | none =>
     rw [hk] at hloop
     exact hloop
    | some s1 =>
     rw [hk] at hloop
     obtain ⟨d1, d2⟩ := tk_out hk
     simp only [Option.bind_some] at hloop ⊢
     cases hp : PK (PT names r f) (rk r (ixS names (wd s) 0)).toNat false s1 [] with
     | none =>
      rw [hp] at hloop
      exact hloop
     | some p =>
      obtain ⟨l, q⟩ := p
      rw [hp] at hloop
      dsimp only at hloop
      simp only [Option.bind_some]
      obtain ⟨b1, b2⟩ := PK_out (PT_out names r f) _ _ _ _ _ _ hp
      rw [tsL] at b2
      refine cast (congrArg (fun z => Rr names r z _) hloop.symm) ?_
      rw [rk_get c3 (by omega), Option.bind_some, if_pos (by omega), show (41 : Int) = ((41 : Nat) : Int) from rfl, must_eq 41 (by omega) (by omega) (by omega), Option.bind_some, show UInt8.ofNat 41 = 41 from rfl]
      cases hk2 : tk 41 q with
      | none => exact ⟨_, _, _, _, (by have := skp_len q; omega : (skp q).length ≤ 90000), rfl⟩
      | some s2 => rfl
  ·rw [if_pos (by omega), if_neg (fun e => c3 (by rw [ht.1 e]; exact e.2))]
   exact ⟨_, _, _, _, (by omega : (skp s).length ≤ 90000), rfl⟩
end Go.AM.S01

