/- What the functions of this seat compute on the abstract machine, function by function, and the plain laws. -/
import Derived.Test.YtlplohgmoheeaaaTab
import Derived.Test.YtlplohgmoheeaaaAmGen
import Derived.KernelRfl
import Derived.Test.YtlplohgmoheeaaaAmEntry
import Derived.Test.YtlplohgmoheeaaaAmVal
set_option linter.unusedVariables false
set_option linter.unusedSimpArgs false
namespace Go.AM.S02
open Go Go.Proofs Go.AM
set_option maxRecDepth 100000
set_option linter.unusedVariables false
set_option maxHeartbeats 4000000
def dR : Code → Code
 | .seq _ b => b
 | _ => .skip
theorem sR74 : splitR c74 = some (5, dR c74) := by rfl
theorem nr74 : noRF (dR c74) = true := by kernel_rfl
theorem gd74_p0 (σ : List AObj) (i : Nat) (hp1 : i < σ.length) (x : AV) (K : List AObj → Option (Out × List AObj)) : gdR Try.prog T H 74 [.ptr i 0] (List.set σ i (.cells [x])) (some (.ifc 114 (.agg []))) K = K (List.set σ i (.cells [.p (iv 4)])) := by
 rw [gdR_eq (c := c74) Try.func74 rfl sR74 ⟨rfl, rfl, rfl, by decide, (by show 1 ≤ 5; decide), nr74⟩]
 unfold dR c74 Try.f74
 simp only [Option.getD_some]
 simp only [go_sem, pvA, hp1, fun k => Nat.lt_add_right k hp1, Nat.not_le_of_lt hp1, fun k => Nat.not_le_of_lt (Nat.lt_add_right k hp1)]
noncomputable def gX74 (σ : List AObj) (i : Nat) (K : List AObj → Option (Out × List AObj)) : Option AObj → Option (Out × List AObj)
 | some (.cells [_]) => K (List.set σ i (.cells [.p (iv 4)]))
 | _ => gdR Try.prog T H 74 [.ptr i 0] σ (some (.ifc 114 (.agg []))) K
theorem gX74_c (σ : List AObj) (i : Nat) (K : List AObj → Option (Out × List AObj)) (x : AV) : gX74 σ i K (some (.cells [x])) = K (List.set σ i (.cells [.p (iv 4)])) := rfl
theorem gd74_p (σ : List AObj) (i : Nat) (K : List AObj → Option (Out × List AObj)) : gdR Try.prog T H 74 [.ptr i 0] σ (some (.ifc 114 (.agg []))) K = gX74 σ i K σ[i]? := by
 unfold gX74
 split
 ·rename_i x h
  have hi := (List.getElem?_eq_some_iff.1 h).1
  have := gd74_p0 σ i hi x K
  rwa [show List.set σ i (.cells [x]) = σ from by
   refine List.ext_getElem? fun j => ?_
   by_cases e : i = j
   ·subst e; rw [List.getElem?_set_self hi, h]
   ·rw [List.getElem?_set_ne e]] at this
 ·rfl
theorem gd74_n (σ : List AObj) (i : Nat) (K : List AObj → Option (Out × List AObj)) : gdR Try.prog T H 74 [.ptr i 0] σ none K = K σ := by
 rw [gdR_eq (c := c74) Try.func74 rfl sR74 ⟨rfl, rfl, rfl, by decide, (by show 1 ≤ 5; decide), nr74⟩]
 unfold dR c74 Try.f74
 simp only [Option.getD_some]
 simp only [go_sem, pvA]
attribute [go_sem] gX74_c gd74_p gd74_n
end Go.AM.S02

namespace Go.AM.S02
open Go Go.Proofs Go.AM
set_option maxRecDepth 100000
set_option linter.unusedVariables false
set_option maxHeartbeats 4000000
structure Node where
 Label : Int
 Kids : List Node
mutual
def row_Node : Node → List PV
 | .mk f0 f1 => [iv f0, .sl none 2 (rows_Node f1)]
def rows_Node : List Node → List (List PV)
 | [] => []
 | x :: r => row_Node x :: rows_Node r
end
theorem rows_Node_map : ∀ l : List Node, rows_Node l = l.map row_Node
 | [] => rfl
 | x :: r => by rw [rows_Node, rows_Node_map r]; rfl
theorem row_Node_eq (x : Node) : row_Node x = [iv x.Label, .sl none 2 (List.map row_Node x.Kids)] := by
 cases x; rw [row_Node]; simp only [rows_Node_map]
attribute [go_sem] row_Node_eq
structure Tree where
 Sym : Int
 Kids : List Tree
mutual
def row_Tree : Tree → List PV
 | .mk f0 f1 => [iv f0, .sl none 2 (rows_Tree f1)]
def rows_Tree : List Tree → List (List PV)
 | [] => []
 | x :: r => row_Tree x :: rows_Tree r
end
theorem rows_Tree_map : ∀ l : List Tree, rows_Tree l = l.map row_Tree
 | [] => rfl
 | x :: r => by rw [rows_Tree, rows_Tree_map r]; rfl
theorem row_Tree_eq (x : Tree) : row_Tree x = [iv x.Sym, .sl none 2 (List.map row_Tree x.Kids)] := by
 cases x; rw [row_Tree]; simp only [rows_Tree_map]
attribute [go_sem] row_Tree_eq
structure hedge_Info where
 Label : Int
 Parent : Int
 Index : Int
 Last : Int
def row_hedge_Info (x : hedge_Info) : List PV := [iv x.Label, iv x.Parent, iv x.Index, iv x.Last]
theorem row_hedge_Info_eq (x : hedge_Info) : row_hedge_Info x = [iv x.Label, iv x.Parent, iv x.Index, iv x.Last] := rfl
attribute [go_sem] row_hedge_Info_eq
structure ref02_Info where
 Label : Int
 Parent : Int
 Index : Int
 Last : Int
def row_ref02_Info (x : ref02_Info) : List PV := [iv x.Label, iv x.Parent, iv x.Index, iv x.Last]
theorem row_ref02_Info_eq (x : ref02_Info) : row_ref02_Info x = [iv x.Label, iv x.Parent, iv x.Index, iv x.Last] := rfl
attribute [go_sem] row_ref02_Info_eq
structure Alphabet where
 Ranks : List Int
def row_Alphabet (x : Alphabet) : List PV := [.sl none 1 (List.map rowI x.Ranks)]
theorem row_Alphabet_eq (x : Alphabet) : row_Alphabet x = [.sl none 1 (List.map rowI x.Ranks)] := rfl
attribute [go_sem] row_Alphabet_eq
structure hedge_sized where
 label : Int
 size : Int
 kids : List hedge_sized
mutual
def row_hedge_sized : hedge_sized → List PV
 | .mk f0 f1 f2 => [iv f0, iv f1, .sl none 3 (rows_hedge_sized f2)]
def rows_hedge_sized : List hedge_sized → List (List PV)
 | [] => []
 | x :: r => row_hedge_sized x :: rows_hedge_sized r
end
theorem rows_hedge_sized_map : ∀ l : List hedge_sized, rows_hedge_sized l = l.map row_hedge_sized
 | [] => rfl
 | x :: r => by rw [rows_hedge_sized, rows_hedge_sized_map r]; rfl
theorem row_hedge_sized_eq (x : hedge_sized) : row_hedge_sized x = [iv x.label, iv x.size, .sl none 3 (List.map row_hedge_sized x.kids)] := by
 cases x; rw [row_hedge_sized]; simp only [rows_hedge_sized_map]
attribute [go_sem] row_hedge_sized_eq
structure tree_Reader where
 text : Str
 at_ : Int
def row_tree_Reader (x : tree_Reader) : List PV := [.lit (.string (bs x.text)), iv x.at_]
theorem row_tree_Reader_eq (x : tree_Reader) : row_tree_Reader x = [.lit (.string (bs x.text)), iv x.at_] := rfl
attribute [go_sem] row_tree_Reader_eq
structure ref02_reader where
 names : List Str
 s : Str
 bad : Bool
def row_ref02_reader (x : ref02_reader) : List PV := [.sl none 1 (List.map rowS x.names), .lit (.string (bs x.s)), bv x.bad]
theorem row_ref02_reader_eq (x : ref02_reader) : row_ref02_reader x = [.sl none 1 (List.map rowS x.names), .lit (.string (bs x.s)), bv x.bad] := rfl
attribute [go_sem] row_ref02_reader_eq
def ref02_count : Nat → (List Node) → Int → Option Int
 | 0, _, _ => none
 | n + 1, a0, a1 =>
  rangeL a0 0 (fun k1 i1 x1 (s1 : Int) n1 =>
   if s1 ≤ a1 then
    (ref02_count n x1.Kids (w64 ((w64 (a1 - s1)) - 1))).bind fun v1 =>
    n1 (w64 (s1 + (w64 (1 + v1))))
   else
    n1 s1) fun s1 =>
  some s1
theorem spec35 : ∀ (n : Nat), (∀ (a0 : List Node) (a1 : Int) (r : Int), ref02_count n a0 a1 = some r →
 call Try.prog T H (.fn 35) [.p (.sl none 2 (List.map row_Node a0)), .p (iv a1)] [] = some (.ret (.p (iv r)), [])) := by
 intro n
 induction n with
 | zero => intro a0 a1 r h; cases h
 | succ n ih =>
  intro a0 a1 r h
  refine Sat.fn fun Q hQ => ?_
  rw [ref02_count] at h
  rw [call35]
  conv => arg 1; arg 7; unfold S02.c35 Try.f35; simp only [Option.getD_some]
  simp only [go_sem]
  refine run_rangeL (c := L35_0) (live := [1, 5, 8, 9, 10]) (by simp only [go_sem]) (M := fun i1 (s1 : Int) => [(1, .p (iv a1)), (5, .p (iv s1)), (8, .p (.sl none 2 (List.map row_Node a0))), (9, .p (iv (a0.length : Int))), (10, .p (iv (i1 : Int)))]) (Z := fun i1 (s1 : Int) => []) (N := fun (s1 : Int) => ⟨[(5, .p (iv s1))], [], [], none, false⟩) h rfl rfl (fun _ _ => rfl) ?_ ?_ ?_
  ·intro s1 h
   try dsimp only at h ⊢
   simp only [go_sem]
   injection h with h; subst h
   exact Sat.ok hQ
  ·intro K1 s1 hb1 he1
   try dsimp only
   conv => arg 1; arg 7; unfold L35_0 loopAt S02.c35 Try.f35; simp only [loopIn, Option.getD_some, if_true]
   simp only [go_sem, he1]
   exact hb1
  ·intro K1 k1 i1 x1 s1 n1 hR1 hE1 hb1 hx1 hi1 hw1 ih1 h
   try dsimp only at h ⊢
   conv => arg 1; arg 7; unfold L35_0 loopAt S02.c35 Try.f35; simp only [loopIn, Option.getD_some, if_true]
   by_cases c1 : s1 ≤ a1
   ·have h := iteT h c1
    obtain ⟨v1, e_v1, h⟩ := ob h
    have e_v1c : call Try.prog T H (.fn 35) [.p (.sl none 2 (List.map row_Node x1.Kids)), .p (iv (w64 ((w64 (a1 - s1)) - 1)))] [] = some (.ret (.p (iv v1)), []) := ih x1.Kids (w64 ((w64 (a1 - s1)) - 1)) v1 e_v1
    simp only [go_sem, hx1, hi1, hw1, c1, e_v1c, hR1, hE1]
    exact ih1 (w64 (s1 + (w64 (1 + v1)))) h
   ·have h := iteF h c1
    simp only [go_sem, hx1, hi1, hw1, c1, hR1, hE1]
    exact ih1 s1 h
def ref02_Few (n : Nat) (a0 : List Node) (a1 : Int) : Option Bool :=
 (ref02_count n a0 a1).bind fun v1 =>
 some (decide (v1 ≤ a1))
theorem spec8 (n : Nat) (a0 : List Node) (a1 : Int) (r : Bool) (h : ref02_Few n a0 a1 = some r) :
 call Try.prog T H (.fn 8) [.p (.sl none 2 (List.map row_Node a0)), .p (iv a1)] [] = some (.ret (.p (bv r)), []) := by
 refine Sat.fn fun Q hQ => ?_
 unfold ref02_Few at h
 rw [call8]
 conv => arg 1; arg 7; unfold S02.c8 Try.f8; simp only [Option.getD_some]
 obtain ⟨v1, e_v1, h⟩ := ob h
 have e_v1c := spec35 n a0 a1 v1 e_v1
 simp only [go_sem, e_v1c]
 injection h with h; subst h
 exact Sat.ok hQ
def hedge_labels (a0 : Int) : Option Bool :=
 if 1 ≤ a0 then
  some (decide (a0 ≤ 8))
 else
  some false
theorem spec47 (a0 : Int) (r : Bool) (h : hedge_labels a0 = some r) :
 call Try.prog T H (.fn 47) [.p (iv a0)] [] = some (.ret (.p (bv r)), []) := by
 refine Sat.fn fun Q hQ => ?_
 unfold hedge_labels at h
 rw [call47]
 conv => arg 1; arg 7; unfold S02.c47 Try.f47; simp only [Option.getD_some]
 by_cases c1 : 1 ≤ a0
 ·have h := iteT h c1
  simp only [go_sem, c1]
  injection h with h; subst h
  exact Sat.ok hQ
 ·have h := iteF h c1
  simp only [go_sem, c1]
  injection h with h; subst h
  exact Sat.ok hQ
def hedge_formed : Nat → Int → (List Node) → Int → Option (Bool × Int)
 | 0, _, _, _ => none
 | n + 1, a0, a1, a2 =>
  rangeL a1 a2 (fun k1 i1 x1 (s1 : Int) n1 =>
   if (w64 (s1 - 1)) < 0 then
    some (false, w64 (s1 - 1))
   else
    if x1.Label < 0 then
     some (false, w64 (s1 - 1))
    else
     if a0 ≤ x1.Label then
      some (false, w64 (s1 - 1))
     else
      (hedge_formed n a0 x1.Kids (w64 (s1 - 1))).bind fun v1 =>
      if v1.1 = true then
       n1 v1.2
      else
       some (false, v1.2)) fun s1 =>
  some (true, s1)
theorem spec50 : ∀ (n : Nat), (∀ (σ : List AObj) (p2 : Nat) (hp2 : p2 < σ.length) (a0 : Int) (a1 : List Node) (a2 : Int) (r : Bool × Int), hedge_formed n a0 a1 a2 = some r →
 call Try.prog T H (.fn 50) [.p (iv a0), .p (.sl none 2 (List.map row_Node a1)), .ptr p2 0] (List.set σ p2 (.cells [.p (iv a2)])) = some (.ret (.p (bv r.1)), (List.set σ p2 (.cells [.p (iv r.2)])))) := by
 intro n
 induction n with
 | zero => intro σ p2 hp2 a0 a1 a2 r h; cases h
 | succ n ih =>
  intro σ p2 hp2 a0 a1 a2 r h
  refine Sat.fn fun Q hQ => ?_
  rw [hedge_formed] at h
  rw [call50]
  conv => arg 1; arg 7; unfold S02.c50 Try.f50; simp only [Option.getD_some]
  simp only [go_sem, hp2, fun k => Nat.lt_add_right k hp2, Nat.not_le_of_lt hp2, fun k => Nat.not_le_of_lt (Nat.lt_add_right k hp2)]
  refine run_rangeL (c := L50_0) (live := [0, 2, 9, 10, 11]) (by simp only [go_sem]) (M := fun i1 (s1 : Int) => [(0, .p (iv a0)), (2, .ptr p2 0), (9, .p (.sl none 2 (List.map row_Node a1))), (10, .p (iv (a1.length : Int))), (11, .p (iv (i1 : Int)))]) (Z := fun i1 (s1 : Int) => (List.set σ p2 (.cells [.p (iv s1)]))) (N := fun (s1 : Int) => ⟨[], (List.set σ p2 (.cells [.p (iv s1)])), [], none, false⟩) h rfl rfl (fun _ _ => rfl) ?_ ?_ ?_
  ·intro s1 h
   try dsimp only at h ⊢
   simp only [go_sem, hp2, fun k => Nat.lt_add_right k hp2, Nat.not_le_of_lt hp2, fun k => Nat.not_le_of_lt (Nat.lt_add_right k hp2)]
   injection h with h; subst h
   exact Sat.ok hQ
  ·intro K1 s1 hb1 he1
   try dsimp only
   conv => arg 1; arg 7; unfold L50_0 loopAt S02.c50 Try.f50; simp only [loopIn, Option.getD_some, if_true]
   simp only [go_sem, he1, hp2, fun k => Nat.lt_add_right k hp2, Nat.not_le_of_lt hp2, fun k => Nat.not_le_of_lt (Nat.lt_add_right k hp2)]
   exact hb1
  ·intro K1 k1 i1 x1 s1 n1 hR1 hE1 hb1 hx1 hi1 hw1 ih1 h
   try dsimp only at h ⊢
   conv => arg 1; arg 7; unfold L50_0 loopAt S02.c50 Try.f50; simp only [loopIn, Option.getD_some, if_true]
   by_cases c1 : (w64 (s1 - 1)) < 0
   ·have h := iteT h c1
    simp only [go_sem, hx1, hi1, hw1, c1, hR1, hE1, hp2, fun k => Nat.lt_add_right k hp2, Nat.not_le_of_lt hp2, fun k => Nat.not_le_of_lt (Nat.lt_add_right k hp2)]
    injection h with h; subst h
    exact Sat.ok hQ
   ·have h := iteF h c1
    by_cases c2 : x1.Label < 0
    ·have h := iteT h c2
     simp only [go_sem, hx1, hi1, hw1, c1, c2, hR1, hE1, hp2, fun k => Nat.lt_add_right k hp2, Nat.not_le_of_lt hp2, fun k => Nat.not_le_of_lt (Nat.lt_add_right k hp2)]
     injection h with h; subst h
     exact Sat.ok hQ
    ·have h := iteF h c2
     by_cases c3 : a0 ≤ x1.Label
     ·have h := iteT h c3
      simp only [go_sem, hx1, hi1, hw1, c1, c2, c3, hR1, hE1, hp2, fun k => Nat.lt_add_right k hp2, Nat.not_le_of_lt hp2, fun k => Nat.not_le_of_lt (Nat.lt_add_right k hp2)]
      injection h with h; subst h
      exact Sat.ok hQ
     ·have h := iteF h c3
      obtain ⟨v1, e_v1, h⟩ := ob h
      have e_v1c : call Try.prog T H (.fn 50) [.p (iv a0), .p (.sl none 2 (List.map row_Node x1.Kids)), .ptr p2 0] ((List.set σ p2 (.cells [.p (iv (w64 (s1 - 1)))])) ++ [.cells [.p (iv x1.Label), .p (.sl none 2 (List.map row_Node x1.Kids))]]) = some (.ret (.p (bv v1.1)), ((List.set σ p2 (.cells [.p (iv v1.2)])) ++ [.cells [.p (iv x1.Label), .p (.sl none 2 (List.map row_Node x1.Kids))]])) := by have q := ih ((List.set σ p2 (.cells [.p (iv (w64 (s1 - 1)))])) ++ [.cells [.p (iv x1.Label), .p (.sl none 2 (List.map row_Node x1.Kids))]]) p2 (by simp only [List.length_append, List.length_set, List.length_cons, List.length_nil]; omega) a0 x1.Kids (w64 (s1 - 1)) v1 e_v1; first | (simp only [go_sem, hp2, fun k => Nat.lt_add_right k hp2, Nat.not_le_of_lt hp2, fun k => Nat.not_le_of_lt (Nat.lt_add_right k hp2)] at q ⊢; exact q) | exact q
      by_cases c4 : v1.1 = true
      ·have h := iteT h c4
       simp only [go_sem, hx1, hi1, hw1, c1, c2, c3, e_v1c, c4, hR1, hE1, hp2, fun k => Nat.lt_add_right k hp2, Nat.not_le_of_lt hp2, fun k => Nat.not_le_of_lt (Nat.lt_add_right k hp2)]
       exact ih1 v1.2 h
      ·have h := iteF h c4
       have c4 := eq_false_of_ne_true c4
       simp only [go_sem, hx1, hi1, hw1, c1, c2, c3, e_v1c, c4, hR1, hE1, hp2, fun k => Nat.lt_add_right k hp2, Nat.not_le_of_lt hp2, fun k => Nat.not_le_of_lt (Nat.lt_add_right k hp2)]
       injection h with h; subst h
       exact Sat.ok hQ
def hedge_ValidHedge (n : Nat) (a0 : Int) (a1 : List Node) : Option Bool :=
 (hedge_labels a0).bind fun v1 =>
 if v1 = true then
  (hedge_formed n a0 a1 300).bind fun v2 =>
  some v2.1
 else
  some false
theorem spec25 (n : Nat) (a0 : Int) (a1 : List Node) (r : Bool) (h : hedge_ValidHedge n a0 a1 = some r) :
 call Try.prog T H (.fn 25) [.p (iv a0), .p (.sl none 2 (List.map row_Node a1))] [] = some (.ret (.p (bv r)), []) := by
 refine Sat.fn fun Q hQ => ?_
 unfold hedge_ValidHedge at h
 rw [call25]
 conv => arg 1; arg 7; unfold S02.c25 Try.f25; simp only [Option.getD_some]
 obtain ⟨v1, e_v1, h⟩ := ob h
 have e_v1c := spec47 a0 v1 e_v1
 by_cases c1 : v1 = true
 ·have h := iteT h c1
  obtain ⟨v2, e_v2, h⟩ := ob h
  have e_v2c : call Try.prog T H (.fn 50) [.p (iv a0), .p (.sl none 2 (List.map row_Node a1)), .ptr 0 0] [.cells [.p (iv 300)]] = some (.ret (.p (bv v2.1)), [.cells [.p (iv v2.2)]]) := by have q := spec50 n [.cells [.p (iv 300)]] 0 (by simp only [List.length_append, List.length_set, List.length_cons, List.length_nil]; omega) a0 a1 300 v2 e_v2; first | (simp only [go_sem] at q ⊢; exact q) | exact q
  simp only [go_sem, e_v1c, c1, e_v2c]
  injection h with h; subst h
  exact Sat.ok hQ
 ·have h := iteF h c1
  have c1 := eq_false_of_ne_true c1
  simp only [go_sem, e_v1c, c1]
  injection h with h; subst h
  exact Sat.ok hQ
def hedge_Valid (n : Nat) (a0 : Int) (a1 : Node) : Option Bool :=
 (hedge_ValidHedge n a0 [a1]).bind fun v1 =>
 some v1
theorem spec23 (n : Nat) (a0 : Int) (a1 : Node) (r : Bool) (h : hedge_Valid n a0 a1 = some r) :
 call Try.prog T H (.fn 23) [.p (iv a0), .p (.agg [iv a1.Label, .sl none 2 (List.map row_Node a1.Kids)])] [] = some (.ret (.p (bv r)), []) := by
 refine Sat.fn fun Q hQ => ?_
 unfold hedge_Valid at h
 rw [call23]
 conv => arg 1; arg 7; unfold S02.c23 Try.f23; simp only [Option.getD_some]
 obtain ⟨v1, e_v1, h⟩ := ob h
 have e_v1c : call Try.prog T H (.fn 25) [.p (iv a0), .p (.sl none 2 [[iv a1.Label, .sl none 2 (List.map row_Node a1.Kids)]])] [] = some (.ret (.p (bv v1)), []) := by have q := spec25 n a0 [a1] v1 e_v1; simp only [List.map_cons, List.map_nil, row_Node_eq] at q ⊢; exact q
 simp only [go_sem, e_v1c]
 injection h with h; subst h
 exact Sat.ok hQ
def hedge_Size : Nat → (List Node) → Option Int
 | 0, _ => none
 | n + 1, a0 =>
  rangeL a0 (a0.length : Int) (fun k1 i1 x1 (s1 : Int) n1 =>
   (hedge_Size n x1.Kids).bind fun v1 =>
   n1 (w64 (s1 + v1))) fun s1 =>
  some s1
theorem spec28 : ∀ (n : Nat), (∀ (a0 : List Node) (r : Int), hedge_Size n a0 = some r →
 call Try.prog T H (.fn 28) [.p (.sl none 2 (List.map row_Node a0))] [] = some (.ret (.p (iv r)), [])) := by
 intro n
 induction n with
 | zero => intro a0 r h; cases h
 | succ n ih =>
  intro a0 r h
  refine Sat.fn fun Q hQ => ?_
  rw [hedge_Size] at h
  rw [call28]
  conv => arg 1; arg 7; unfold S02.c28 Try.f28; simp only [Option.getD_some]
  simp only [go_sem]
  refine run_rangeL (c := L28_0) (live := [3, 8, 9, 10]) (by simp only [go_sem]) (M := fun i1 (s1 : Int) => [(3, .p (iv s1)), (8, .p (.sl none 2 (List.map row_Node a0))), (9, .p (iv (a0.length : Int))), (10, .p (iv (i1 : Int)))]) (Z := fun i1 (s1 : Int) => []) (N := fun (s1 : Int) => ⟨[(3, .p (iv s1))], [], [], none, false⟩) h rfl rfl (fun _ _ => rfl) ?_ ?_ ?_
  ·intro s1 h
   try dsimp only at h ⊢
   simp only [go_sem]
   injection h with h; subst h
   exact Sat.ok hQ
  ·intro K1 s1 hb1 he1
   try dsimp only
   conv => arg 1; arg 7; unfold L28_0 loopAt S02.c28 Try.f28; simp only [loopIn, Option.getD_some, if_true]
   simp only [go_sem, he1]
   exact hb1
  ·intro K1 k1 i1 x1 s1 n1 hR1 hE1 hb1 hx1 hi1 hw1 ih1 h
   try dsimp only at h ⊢
   conv => arg 1; arg 7; unfold L28_0 loopAt S02.c28 Try.f28; simp only [loopIn, Option.getD_some, if_true]
   obtain ⟨v1, e_v1, h⟩ := ob h
   have e_v1c := ih x1.Kids v1 e_v1
   simp only [go_sem, hx1, hi1, hw1, e_v1c, hR1, hE1]
   exact ih1 (w64 (s1 + v1)) h
def ref01_Size : Nat → Tree → Option Int
 | 0, _ => none
 | n + 1, a0 =>
  rangeL a0.Kids 1 (fun k1 i1 x1 (s1 : Int) n1 =>
   (ref01_Size n x1).bind fun v1 =>
   n1 (w64 (s1 + v1))) fun s1 =>
  some s1
theorem spec36 : ∀ (n : Nat), (∀ (a0 : Tree) (r : Int), ref01_Size n a0 = some r →
 call Try.prog T H (.fn 36) [.p (.agg [iv a0.Sym, .sl none 2 (List.map row_Tree a0.Kids)])] [] = some (.ret (.p (iv r)), [])) := by
 intro n
 induction n with
 | zero => intro a0 r h; cases h
 | succ n ih =>
  intro a0 r h
  refine Sat.fn fun Q hQ => ?_
  rw [ref01_Size] at h
  rw [call36]
  conv => arg 1; arg 7; unfold S02.c36 Try.f36; simp only [Option.getD_some]
  simp only [go_sem]
  refine run_rangeL (c := L36_0) (live := [3, 7, 8, 9]) (by simp only [go_sem]) (M := fun i1 (s1 : Int) => [(3, .p (iv s1)), (7, .p (.sl none 2 (List.map row_Tree a0.Kids))), (8, .p (iv (a0.Kids.length : Int))), (9, .p (iv (i1 : Int)))]) (Z := fun i1 (s1 : Int) => [.cells [.p (iv a0.Sym), .p (.sl none 2 (List.map row_Tree a0.Kids))]]) (N := fun (s1 : Int) => ⟨[(3, .p (iv s1))], [.cells [.p (iv a0.Sym), .p (.sl none 2 (List.map row_Tree a0.Kids))]], [], none, false⟩) h rfl rfl (fun _ _ => rfl) ?_ ?_ ?_
  ·intro s1 h
   try dsimp only at h ⊢
   simp only [go_sem]
   injection h with h; subst h
   exact Sat.ok hQ
  ·intro K1 s1 hb1 he1
   try dsimp only
   conv => arg 1; arg 7; unfold L36_0 loopAt S02.c36 Try.f36; simp only [loopIn, Option.getD_some, if_true]
   simp only [go_sem, he1]
   exact hb1
  ·intro K1 k1 i1 x1 s1 n1 hR1 hE1 hb1 hx1 hi1 hw1 ih1 h
   try dsimp only at h ⊢
   conv => arg 1; arg 7; unfold L36_0 loopAt S02.c36 Try.f36; simp only [loopIn, Option.getD_some, if_true]
   obtain ⟨v1, e_v1, h⟩ := ob h
   have e_v1c := ih x1 v1 e_v1
   simp only [go_sem, hx1, hi1, hw1, e_v1c, hR1, hE1]
   exact ih1 (w64 (s1 + v1)) h
def ref02_labelled : Nat → Int → (List Node) → Option Bool
 | 0, _, _ => none
 | n + 1, a0, a1 =>
  rangeL a1 () (fun k1 i1 x1 (s1 : Unit) n1 =>
   if x1.Label < 0 then
    some false
   else
    if a0 ≤ x1.Label then
     some false
    else
     (ref02_labelled n a0 x1.Kids).bind fun v1 =>
     if v1 = true then
      n1 ()
     else
      some false) fun s1 =>
  some true
theorem spec51 : ∀ (n : Nat), (∀ (a0 : Int) (a1 : List Node) (r : Bool), ref02_labelled n a0 a1 = some r →
 call Try.prog T H (.fn 51) [.p (iv a0), .p (.sl none 2 (List.map row_Node a1))] [] = some (.ret (.p (bv r)), [])) := by
 intro n
 induction n with
 | zero => intro a0 a1 r h; cases h
 | succ n ih =>
  intro a0 a1 r h
  refine Sat.fn fun Q hQ => ?_
  rw [ref02_labelled] at h
  rw [call51]
  conv => arg 1; arg 7; unfold S02.c51 Try.f51; simp only [Option.getD_some]
  simp only [go_sem]
  refine run_rangeL (c := L51_0) (live := [0, 7, 8, 9]) (by simp only [go_sem]) (M := fun i1 (s1 : Unit) => [(0, .p (iv a0)), (7, .p (.sl none 2 (List.map row_Node a1))), (8, .p (iv (a1.length : Int))), (9, .p (iv (i1 : Int)))]) (Z := fun i1 (s1 : Unit) => []) (N := fun (s1 : Unit) => ⟨[], [], [], none, false⟩) h rfl rfl (fun _ _ => rfl) ?_ ?_ ?_
  ·intro s1 h
   try dsimp only at h ⊢
   simp only [go_sem]
   injection h with h; subst h
   exact Sat.ok hQ
  ·intro K1 s1 hb1 he1
   try dsimp only
   conv => arg 1; arg 7; unfold L51_0 loopAt S02.c51 Try.f51; simp only [loopIn, Option.getD_some, if_true]
   simp only [go_sem, he1]
   exact hb1
  ·intro K1 k1 i1 x1 s1 n1 hR1 hE1 hb1 hx1 hi1 hw1 ih1 h
   try dsimp only at h ⊢
   conv => arg 1; arg 7; unfold L51_0 loopAt S02.c51 Try.f51; simp only [loopIn, Option.getD_some, if_true]
   by_cases c1 : x1.Label < 0
   ·have h := iteT h c1
    simp only [go_sem, hx1, hi1, hw1, c1, hR1, hE1]
    injection h with h; subst h
    exact Sat.ok hQ
   ·have h := iteF h c1
    by_cases c2 : a0 ≤ x1.Label
    ·have h := iteT h c2
     simp only [go_sem, hx1, hi1, hw1, c1, c2, hR1, hE1]
     injection h with h; subst h
     exact Sat.ok hQ
    ·have h := iteF h c2
     obtain ⟨v1, e_v1, h⟩ := ob h
     have e_v1c := ih a0 x1.Kids v1 e_v1
     by_cases c3 : v1 = true
     ·have h := iteT h c3
      simp only [go_sem, hx1, hi1, hw1, c1, c2, e_v1c, c3, hR1, hE1]
      exact ih1 () h
     ·have h := iteF h c3
      have c3 := eq_false_of_ne_true c3
      simp only [go_sem, hx1, hi1, hw1, c1, c2, e_v1c, c3, hR1, hE1]
      injection h with h; subst h
      exact Sat.ok hQ
def ref02_ValidHedge (n : Nat) (a0 : Int) (a1 : List Node) : Option Bool :=
 if 1 ≤ a0 then
  if a0 ≤ 8 then
   (ref02_Few n a1 300).bind fun v1 =>
   if v1 = true then
    (ref02_labelled n a0 a1).bind fun v2 =>
    some v2
   else
    some false
  else
   some false
 else
  some false
theorem spec26 (n : Nat) (a0 : Int) (a1 : List Node) (r : Bool) (h : ref02_ValidHedge n a0 a1 = some r) :
 call Try.prog T H (.fn 26) [.p (iv a0), .p (.sl none 2 (List.map row_Node a1))] [] = some (.ret (.p (bv r)), []) := by
 refine Sat.fn fun Q hQ => ?_
 unfold ref02_ValidHedge at h
 rw [call26]
 conv => arg 1; arg 7; unfold S02.c26 Try.f26; simp only [Option.getD_some]
 by_cases c1 : 1 ≤ a0
 ·have h := iteT h c1
  by_cases c2 : a0 ≤ 8
  ·have h := iteT h c2
   obtain ⟨v1, e_v1, h⟩ := ob h
   have e_v1c := spec8 n a1 300 v1 e_v1
   by_cases c3 : v1 = true
   ·have h := iteT h c3
    obtain ⟨v2, e_v2, h⟩ := ob h
    have e_v2c := spec51 n a0 a1 v2 e_v2
    simp only [go_sem, c1, c2, e_v1c, c3, e_v2c]
    injection h with h; subst h
    exact Sat.ok hQ
   ·have h := iteF h c3
    have c3 := eq_false_of_ne_true c3
    simp only [go_sem, c1, c2, e_v1c, c3]
    injection h with h; subst h
    exact Sat.ok hQ
  ·have h := iteF h c2
   simp only [go_sem, c1, c2]
   injection h with h; subst h
   exact Sat.ok hQ
 ·have h := iteF h c1
  simp only [go_sem, c1]
  injection h with h; subst h
  exact Sat.ok hQ
def ref02_Same : Nat → (List Node) → (List Node) → Option Bool
 | 0, _, _ => none
 | n + 1, a0, a1 =>
  if (a0.length : Int) = (a1.length : Int) then
   rangeL a0 () (fun k1 i1 x1 (s1 : Unit) n1 =>
    (a1[i1]?).bind fun v1 =>
    if x1.Label = v1.Label then
     (ref02_Same n x1.Kids v1.Kids).bind fun v2 =>
     if v2 = true then
      n1 ()
     else
      some false
    else
     some false) fun s1 =>
   some true
  else
   some false
theorem spec19 : ∀ (n : Nat), (∀ (a0 : List Node) (a1 : List Node) (r : Bool), ref02_Same n a0 a1 = some r →
 call Try.prog T H (.fn 19) [.p (.sl none 2 (List.map row_Node a0)), .p (.sl none 2 (List.map row_Node a1))] [] = some (.ret (.p (bv r)), [])) := by
 intro n
 induction n with
 | zero => intro a0 a1 r h; cases h
 | succ n ih =>
  intro a0 a1 r h
  refine Sat.fn fun Q hQ => ?_
  rw [ref02_Same] at h
  rw [call19]
  conv => arg 1; arg 7; unfold S02.c19 Try.f19; simp only [Option.getD_some]
  by_cases c1 : (a0.length : Int) = (a1.length : Int)
  ·have h := iteT h c1
   have c1b : ((a0.length : Int) != (a1.length : Int)) = false := bneF c1
   simp only [go_sem, c1b]
   refine run_rangeL (c := L19_0) (live := [0, 1, 12, 13]) (by simp only [go_sem]) (M := fun i1 (s1 : Unit) => [(0, .p (.sl none 2 (List.map row_Node a0))), (1, .p (.sl none 2 (List.map row_Node a1))), (12, .p (iv (a0.length : Int))), (13, .p (iv (i1 : Int)))]) (Z := fun i1 (s1 : Unit) => []) (N := fun (s1 : Unit) => ⟨[], [], [], none, false⟩) h rfl rfl (fun _ _ => rfl) ?_ ?_ ?_
   ·intro s1 h
    try dsimp only at h ⊢
    simp only [go_sem]
    injection h with h; subst h
    exact Sat.ok hQ
   ·intro K1 s1 hb1 he1
    try dsimp only
    conv => arg 1; arg 7; unfold L19_0 loopAt S02.c19 Try.f19; simp only [loopIn, Option.getD_some, if_true]
    simp only [go_sem, he1]
    exact hb1
   ·intro K1 k1 i1 x1 s1 n1 hR1 hE1 hb1 hx1 hi1 hw1 ih1 h
    try dsimp only at h ⊢
    conv => arg 1; arg 7; unfold L19_0 loopAt S02.c19 Try.f19; simp only [loopIn, Option.getD_some, if_true]
    obtain ⟨v1, e_v1, h⟩ := ob h
    by_cases c2 : x1.Label = v1.Label
    ·have h := iteT h c2
     have c2b : (x1.Label != v1.Label) = false := bneF c2
     obtain ⟨v2, e_v2, h⟩ := ob h
     have e_v2c := ih x1.Kids v1.Kids v2 e_v2
     by_cases c3 : v2 = true
     ·have h := iteT h c3
      simp only [go_sem, hx1, hi1, hw1, e_v1, c2b, e_v2c, c3, hR1, hE1]
      exact ih1 () h
     ·have h := iteF h c3
      have c3 := eq_false_of_ne_true c3
      simp only [go_sem, hx1, hi1, hw1, e_v1, c2b, e_v2c, c3, hR1, hE1]
      injection h with h; subst h
      exact Sat.ok hQ
    ·have h := iteF h c2
     have c2b : (x1.Label != v1.Label) = true := bneT c2
     simp only [go_sem, hx1, hi1, hw1, e_v1, c2b, hR1, hE1]
     injection h with h; subst h
     exact Sat.ok hQ
  ·have h := iteF h c1
   have c1b : ((a0.length : Int) != (a1.length : Int)) = true := bneT c1
   simp only [go_sem, c1b]
   injection h with h; subst h
   exact Sat.ok hQ
def tree_letter (a0 : Int) : Option Bool :=
 if 97 ≤ a0 then
  if a0 ≤ 122 then
   some true
  else
   if 65 ≤ a0 then
    some (decide (a0 ≤ 90))
   else
    some false
 else
  if 65 ≤ a0 then
   some (decide (a0 ≤ 90))
  else
   some false
theorem spec83 (a0 : Int) (r : Bool) (h : tree_letter a0 = some r) :
 call Try.prog T H (.fn 83) [.p (.lit (.int .u8 a0))] [] = some (.ret (.p (bv r)), []) := by
 refine Sat.fn fun Q hQ => ?_
 unfold tree_letter at h
 rw [call83]
 conv => arg 1; arg 7; unfold S02.c83 Try.f83; simp only [Option.getD_some]
 by_cases c1 : 97 ≤ a0
 ·have h := iteT h c1
  by_cases c2 : a0 ≤ 122
  ·have h := iteT h c2
   simp only [go_sem, c1, c2]
   injection h with h; subst h
   exact Sat.ok hQ
  ·have h := iteF h c2
   by_cases c3 : 65 ≤ a0
   ·have h := iteT h c3
    simp only [go_sem, c1, c2, c3]
    injection h with h; subst h
    exact Sat.ok hQ
   ·have h := iteF h c3
    simp only [go_sem, c1, c2, c3]
    injection h with h; subst h
    exact Sat.ok hQ
 ·have h := iteF h c1
  by_cases c4 : 65 ≤ a0
  ·have h := iteT h c4
   simp only [go_sem, c1, c4]
   injection h with h; subst h
   exact Sat.ok hQ
  ·have h := iteF h c4
   simp only [go_sem, c1, c4]
   injection h with h; subst h
   exact Sat.ok hQ
def tree_digit (a0 : Int) : Option Bool :=
 if 48 ≤ a0 then
  some (decide (a0 ≤ 57))
 else
  some false
theorem spec84 (a0 : Int) (r : Bool) (h : tree_digit a0 = some r) :
 call Try.prog T H (.fn 84) [.p (.lit (.int .u8 a0))] [] = some (.ret (.p (bv r)), []) := by
 refine Sat.fn fun Q hQ => ?_
 unfold tree_digit at h
 rw [call84]
 conv => arg 1; arg 7; unfold S02.c84 Try.f84; simp only [Option.getD_some]
 by_cases c1 : 48 ≤ a0
 ·have h := iteT h c1
  simp only [go_sem, c1]
  injection h with h; subst h
  exact Sat.ok hQ
 ·have h := iteF h c1
  simp only [go_sem, c1]
  injection h with h; subst h
  exact Sat.ok hQ
def tree_Name (a0 : Str) : Option Bool :=
 if a0 = ([] : Str) then
  some false
 else
  if 12 < (a0.length : Int) then
   some false
  else
   (a0[0]?).bind fun v1 =>
   (tree_letter (v1.toNat : Int)).bind fun v2 =>
   if v2 = true then
    rangeI (a0.length : Int) () (fun k1 i1 (s1 : Unit) n1 =>
     (a0[i1]?).bind fun v3 =>
     (tree_letter (v3.toNat : Int)).bind fun v4 =>
     if v4 = true then
      n1 ()
     else
      (tree_digit (v3.toNat : Int)).bind fun v5 =>
      if v5 = true then
       n1 ()
      else
       some false) fun s1 =>
    some true
   else
    some false
theorem spec70 (a0 : Str) (r : Bool) (h : tree_Name a0 = some r) :
 call Try.prog T H (.fn 70) [.p (.lit (.string (bs a0)))] [] = some (.ret (.p (bv r)), []) := by
 refine Sat.fn fun Q hQ => ?_
 unfold tree_Name at h
 rw [call70]
 conv => arg 1; arg 7; unfold S02.c70 Try.f70; simp only [Option.getD_some]
 by_cases c1 : a0 = ([] : Str)
 ·have h := iteT h c1
  have c1b : (a0 == ([] : Str)) = true := beqT c1
  simp only [go_sem, c1b]
  injection h with h; subst h
  exact Sat.ok hQ
 ·have h := iteF h c1
  have c1b : (a0 == ([] : Str)) = false := beqF c1
  by_cases c2 : 12 < (a0.length : Int)
  ·have h := iteT h c2
   simp only [go_sem, c1b, c2]
   injection h with h; subst h
   exact Sat.ok hQ
  ·have h := iteF h c2
   obtain ⟨v1, e_v1, h⟩ := ob h
   obtain ⟨v2, e_v2, h⟩ := ob h
   have e_v2c : call Try.prog T H (.fn 83) [.p (.lit (.int .u8 (v1.toNat : Int)))] [] = some (.ret (.p (bv v2)), []) := spec83 (v1.toNat : Int) v2 e_v2
   by_cases c3 : v2 = true
   ·have h := iteT h c3
    simp only [go_sem, c1b, c2, e_v1, e_v2c, c3]
    refine run_rangeI (c := L70_0) (live := [0, 18, 19]) (by simp only [go_sem]) (M := fun i1 (s1 : Unit) => [(0, .p (.lit (.string (bs a0)))), (18, .p (iv (a0.length : Int))), (19, .p (iv (i1 : Int)))]) (Z := fun i1 (s1 : Unit) => []) (N := fun (s1 : Unit) => ⟨[], [], [], none, false⟩) h rfl rfl (fun _ _ => rfl) ?_ ?_ ?_
    ·intro s1 h
     try dsimp only at h ⊢
     simp only [go_sem]
     injection h with h; subst h
     exact Sat.ok hQ
    ·intro K1 i1 s1 hb1 he1
     try dsimp only
     conv => arg 1; arg 7; unfold L70_0 loopAt S02.c70 Try.f70; simp only [loopIn, Option.getD_some, if_true]
     simp only [go_sem, he1]
     exact hb1
    ·intro K1 k1 i1 s1 n1 hR1 hE1 hb1 hi1 hw1 ih1 h
     try dsimp only at h ⊢
     conv => arg 1; arg 7; unfold L70_0 loopAt S02.c70 Try.f70; simp only [loopIn, Option.getD_some, if_true]
     obtain ⟨v3, e_v3, h⟩ := ob h
     obtain ⟨v4, e_v4, h⟩ := ob h
     have e_v4c : call Try.prog T H (.fn 83) [.p (.lit (.int .u8 (v3.toNat : Int)))] [] = some (.ret (.p (bv v4)), []) := spec83 (v3.toNat : Int) v4 e_v4
     by_cases c4 : v4 = true
     ·have h := iteT h c4
      simp only [go_sem, hi1, hw1, e_v3, e_v4c, c4, hR1, hE1]
      exact ih1 () h
     ·have h := iteF h c4
      have c4 := eq_false_of_ne_true c4
      obtain ⟨v5, e_v5, h⟩ := ob h
      have e_v5c : call Try.prog T H (.fn 84) [.p (.lit (.int .u8 (v3.toNat : Int)))] [] = some (.ret (.p (bv v5)), []) := spec84 (v3.toNat : Int) v5 e_v5
      by_cases c5 : v5 = true
      ·have h := iteT h c5
       simp only [go_sem, hi1, hw1, e_v3, e_v4c, c4, e_v5c, c5, hR1, hE1]
       exact ih1 () h
      ·have h := iteF h c5
       have c5 := eq_false_of_ne_true c5
       simp only [go_sem, hi1, hw1, e_v3, e_v4c, c4, e_v5c, c5, hR1, hE1]
       injection h with h; subst h
       exact Sat.ok hQ
   ·have h := iteF h c3
    have c3 := eq_false_of_ne_true c3
    simp only [go_sem, c1b, c2, e_v1, e_v2c, c3]
    injection h with h; subst h
    exact Sat.ok hQ
def slices_Index_Lstring_string (a0 : List Str) (a1 : Str) : Option Int :=
 rangeL a0 () (fun k1 i1 x1 (s1 : Unit) n1 =>
  if a1 = x1 then
   some (i1 : Int)
  else
   n1 ()) fun s1 =>
 some (-1)
theorem spec85 (a0 : List Str) (a1 : Str) (r : Int) (h : slices_Index_Lstring_string a0 a1 = some r) :
 call Try.prog T H (.fn 85) [.p (.sl none 1 (List.map rowS a0)), .p (.lit (.string (bs a1)))] [] = some (.ret (.p (iv r)), []) := by
 refine Sat.fn fun Q hQ => ?_
 unfold slices_Index_Lstring_string at h
 rw [call85]
 conv => arg 1; arg 7; unfold S02.c85 Try.f85; simp only [Option.getD_some]
 simp only [go_sem]
 refine run_rangeL (c := L85_0) (live := [0, 1, 7, 8]) (by simp only [go_sem]) (M := fun i1 (s1 : Unit) => [(0, .p (.sl none 1 (List.map rowS a0))), (1, .p (.lit (.string (bs a1)))), (7, .p (iv (a0.length : Int))), (8, .p (iv (i1 : Int)))]) (Z := fun i1 (s1 : Unit) => []) (N := fun (s1 : Unit) => ⟨[], [], [], none, false⟩) h rfl rfl (fun _ _ => rfl) ?_ ?_ ?_
 ·intro s1 h
  try dsimp only at h ⊢
  simp only [go_sem]
  injection h with h; subst h
  exact Sat.ok hQ
 ·intro K1 s1 hb1 he1
  try dsimp only
  conv => arg 1; arg 7; unfold L85_0 loopAt S02.c85 Try.f85; simp only [loopIn, Option.getD_some, if_true]
  simp only [go_sem, he1]
  exact hb1
 ·intro K1 k1 i1 x1 s1 n1 hR1 hE1 hb1 hx1 hi1 hw1 ih1 h
  try dsimp only at h ⊢
  conv => arg 1; arg 7; unfold L85_0 loopAt S02.c85 Try.f85; simp only [loopIn, Option.getD_some, if_true]
  by_cases c1 : a1 = x1
  ·have h := iteT h c1
   have c1b : (a1 == x1) = true := beqT c1
   simp only [go_sem, hx1, hi1, hw1, c1b, hR1, hE1]
   injection h with h; subst h
   exact Sat.ok hQ
  ·have h := iteF h c1
   have c1b : (a1 == x1) = false := beqF c1
   simp only [go_sem, hx1, hi1, hw1, c1b, hR1, hE1]
   exact ih1 () h
def slices_Contains_Lstring_string (a0 : List Str) (a1 : Str) : Option Bool :=
 (slices_Index_Lstring_string a0 a1).bind fun v1 =>
 some (decide (0 ≤ v1))
theorem spec71 (a0 : List Str) (a1 : Str) (r : Bool) (h : slices_Contains_Lstring_string a0 a1 = some r) :
 call Try.prog T H (.fn 71) [.p (.sl none 1 (List.map rowS a0)), .p (.lit (.string (bs a1)))] [] = some (.ret (.p (bv r)), []) := by
 refine Sat.fn fun Q hQ => ?_
 unfold slices_Contains_Lstring_string at h
 rw [call71]
 conv => arg 1; arg 7; unfold S02.c71 Try.f71; simp only [Option.getD_some]
 obtain ⟨v1, e_v1, h⟩ := ob h
 have e_v1c := spec85 a0 a1 v1 e_v1
 simp only [go_sem, e_v1c]
 injection h with h; subst h
 exact Sat.ok hQ
def tree_Names (a0 : List Str) (a1 : Int) : Option Bool :=
 if (a0.length : Int) = a1 then
  rangeL a0 () (fun k1 i1 x1 (s1 : Unit) n1 =>
   (tree_Name x1).bind fun v1 =>
   if v1 = true then
    (slcT a0 (i1 : Int)).bind fun v2 =>
    (slices_Contains_Lstring_string v2 x1).bind fun v3 =>
    if v3 = true then
     some false
    else
     n1 ()
   else
    some false) fun s1 =>
  some true
 else
  some false
theorem spec53 (a0 : List Str) (a1 : Int) (r : Bool) (h : tree_Names a0 a1 = some r) :
 call Try.prog T H (.fn 53) [.p (.sl none 1 (List.map rowS a0)), .p (iv a1)] [] = some (.ret (.p (bv r)), []) := by
 refine Sat.fn fun Q hQ => ?_
 unfold tree_Names at h
 rw [call53]
 conv => arg 1; arg 7; unfold S02.c53 Try.f53; simp only [Option.getD_some]
 by_cases c1 : (a0.length : Int) = a1
 ·have h := iteT h c1
  have c1b : ((a0.length : Int) != a1) = false := bneF c1
  simp only [go_sem, c1b]
  refine run_rangeL (c := L53_0) (live := [0, 11, 12, 13]) (by simp only [go_sem]) (M := fun i1 (s1 : Unit) => [(0, .p (.sl none 1 (List.map rowS a0))), (11, .p (.sl none 1 (List.map rowS a0))), (12, .p (iv (a0.length : Int))), (13, .p (iv (i1 : Int)))]) (Z := fun i1 (s1 : Unit) => []) (N := fun (s1 : Unit) => ⟨[], [], [], none, false⟩) h rfl rfl (fun _ _ => rfl) ?_ ?_ ?_
  ·intro s1 h
   try dsimp only at h ⊢
   simp only [go_sem]
   injection h with h; subst h
   exact Sat.ok hQ
  ·intro K1 s1 hb1 he1
   try dsimp only
   conv => arg 1; arg 7; unfold L53_0 loopAt S02.c53 Try.f53; simp only [loopIn, Option.getD_some, if_true]
   simp only [go_sem, he1]
   exact hb1
  ·intro K1 k1 i1 x1 s1 n1 hR1 hE1 hb1 hx1 hi1 hw1 ih1 h
   try dsimp only at h ⊢
   conv => arg 1; arg 7; unfold L53_0 loopAt S02.c53 Try.f53; simp only [loopIn, Option.getD_some, if_true]
   obtain ⟨v1, e_v1, h⟩ := ob h
   have e_v1c := spec70 x1 v1 e_v1
   by_cases c2 : v1 = true
   ·have h := iteT h c2
    obtain ⟨v2, e_v2, h⟩ := ob h
    obtain ⟨e_v21, e_v22, e_v23, e_v24⟩ := slcT_some e_v2
    try simp only [Int.toNat_natCast] at e_v21
    try simp only [Int.toNat_natCast] at e_v23
    try simp only [Int.toNat_natCast] at e_v24
    obtain ⟨v3, e_v3, h⟩ := ob h
    have e_v3c := spec71 v2 x1 v3 e_v3
    by_cases c3 : v3 = true
    ·have h := iteT h c3
     simp only [go_sem, hx1, hi1, hw1, e_v1c, c2, e_v21, e_v23, ← e_v24, e_v3c, c3, hR1, hE1]
     injection h with h; subst h
     exact Sat.ok hQ
    ·have h := iteF h c3
     have c3 := eq_false_of_ne_true c3
     simp only [go_sem, hx1, hi1, hw1, e_v1c, c2, e_v21, e_v23, ← e_v24, e_v3c, c3, hR1, hE1]
     exact ih1 () h
   ·have h := iteF h c2
    have c2 := eq_false_of_ne_true c2
    simp only [go_sem, hx1, hi1, hw1, e_v1c, c2, hR1, hE1]
    injection h with h; subst h
    exact Sat.ok hQ
 ·have h := iteF h c1
  have c1b : ((a0.length : Int) != a1) = true := bneT c1
  simp only [go_sem, c1b]
  injection h with h; subst h
  exact Sat.ok hQ
def hedge_write : Nat → (List Int) → (List Str) → (List Node) → Option (List Int)
 | 0, _, _, _ => none
 | n + 1, a0, a1, a2 =>
  rangeL a2 a0 (fun k1 i1 x1 (s1 : (List Int)) n1 =>
   if 0 < (i1 : Int) then
    (app 1 s1 [32]).bind fun v1 =>
    (idx a1 x1.Label).bind fun v2 =>
    (app 1 v1 (ofStr v2)).bind fun v3 =>
    if 0 < (x1.Kids.length : Int) then
     (app 1 v3 [40]).bind fun v4 =>
     (hedge_write n v4 a1 x1.Kids).bind fun v5 =>
     (app 1 v5 [41]).bind fun v6 =>
     n1 v6
    else
     n1 v3
   else
    (idx a1 x1.Label).bind fun v7 =>
    (app 1 s1 (ofStr v7)).bind fun v8 =>
    if 0 < (x1.Kids.length : Int) then
     (app 1 v8 [40]).bind fun v9 =>
     (hedge_write n v9 a1 x1.Kids).bind fun v10 =>
     (app 1 v10 [41]).bind fun v11 =>
     n1 v11
    else
     n1 v8) fun s1 =>
  some s1
theorem spec54 : ∀ (n : Nat), (∀ (a0 : List Int) (a1 : List Str) (a2 : List Node) (r : List Int), hedge_write n a0 a1 a2 = some r →
 call Try.prog T H (.fn 54) [.own 1 (List.map rowU8 a0), .p (.sl none 1 (List.map rowS a1)), .p (.sl none 2 (List.map row_Node a2))] [] = some (.ret (.own 1 (List.map rowU8 r)), [])) := by
 intro n
 induction n with
 | zero => intro a0 a1 a2 r h; cases h
 | succ n ih =>
  intro a0 a1 a2 r h
  refine Sat.fn fun Q hQ => ?_
  rw [hedge_write] at h
  rw [call54]
  conv => arg 1; arg 7; unfold S02.c54 Try.f54; simp only [Option.getD_some]
  simp only [go_sem]
  refine run_rangeL (c := L54_0) (live := [0, 1, 9, 10, 11]) (by simp only [go_sem]) (M := fun i1 (s1 : (List Int)) => [(0, .own 1 (List.map rowU8 s1)), (1, .p (.sl none 1 (List.map rowS a1))), (9, .p (.sl none 2 (List.map row_Node a2))), (10, .p (iv (a2.length : Int))), (11, .p (iv (i1 : Int)))]) (Z := fun i1 (s1 : (List Int)) => []) (N := fun (s1 : (List Int)) => ⟨[(0, .own 1 (List.map rowU8 s1))], [], [], none, false⟩) h rfl rfl (fun _ _ => rfl) ?_ ?_ ?_
  ·intro s1 h
   try dsimp only at h ⊢
   simp only [go_sem]
   injection h with h; subst h
   exact Sat.ok hQ
  ·intro K1 s1 hb1 he1
   try dsimp only
   conv => arg 1; arg 7; unfold L54_0 loopAt S02.c54 Try.f54; simp only [loopIn, Option.getD_some, if_true]
   simp only [go_sem, he1]
   exact hb1
  ·intro K1 k1 i1 x1 s1 n1 hR1 hE1 hb1 hx1 hi1 hw1 ih1 h
   try dsimp only at h ⊢
   conv => arg 1; arg 7; unfold L54_0 loopAt S02.c54 Try.f54; simp only [loopIn, Option.getD_some, if_true]
   by_cases c1 : 0 < (i1 : Int)
   ·have h := iteT h c1
    obtain ⟨v1, e_v1, h⟩ := ob h
    have e_v1a : boundOk (s1.length + 1) 1 = true := bnd_of (by have := (app_some e_v1).1; simpa using this) (by decide)
    have e_v1b : (List.map rowU8 s1) ++ [[.lit (.int .u8 32)]] = List.map rowU8 v1 := by rw [(app_some e_v1).2]; simp [rowU8]
    obtain ⟨v2, e_v2, h⟩ := ob h
    obtain ⟨e_v2a, e_v2b⟩ := idx_some e_v2
    obtain ⟨v3, e_v3, h⟩ := ob h
    have e_v3a : boundOk (v1.length + (ofStr v2).length) 1 = true := bnd_of (by have := (app_some e_v3).1; simpa using this) (by decide)
    have e_v3b : (List.map rowU8 v1) ++ (List.map rowU8 (ofStr v2)) = List.map rowU8 v3 := by rw [(app_some e_v3).2]; simp [rowU8]
    have e_v3b : List.map rowU8 (v1 ++ (ofStr v2)) = List.map rowU8 v3 := by rw [(app_some e_v3).2]
    by_cases c2 : 0 < (x1.Kids.length : Int)
    ·have h := iteT h c2
     obtain ⟨v4, e_v4, h⟩ := ob h
     have e_v4a : boundOk (v3.length + 1) 1 = true := bnd_of (by have := (app_some e_v4).1; simpa using this) (by decide)
     have e_v4b : (List.map rowU8 v3) ++ [[.lit (.int .u8 40)]] = List.map rowU8 v4 := by rw [(app_some e_v4).2]; simp [rowU8]
     obtain ⟨v5, e_v5, h⟩ := ob h
     have e_v5c := ih v4 a1 x1.Kids v5 e_v5
     obtain ⟨v6, e_v6, h⟩ := ob h
     have e_v6a : boundOk (v5.length + 1) 1 = true := bnd_of (by have := (app_some e_v6).1; simpa using this) (by decide)
     have e_v6b : (List.map rowU8 v5) ++ [[.lit (.int .u8 41)]] = List.map rowU8 v6 := by rw [(app_some e_v6).2]; simp [rowU8]
     simp only [go_sem, hx1, hi1, hw1, c1, e_v1a, e_v1b, e_v2a, e_v2b, e_v3a, e_v3b, c2, e_v4a, e_v4b, e_v5c, e_v6a, e_v6b, hR1, hE1]
     exact ih1 v6 h
    ·have h := iteF h c2
     simp only [go_sem, hx1, hi1, hw1, c1, e_v1a, e_v1b, e_v2a, e_v2b, e_v3a, e_v3b, c2, hR1, hE1]
     exact ih1 v3 h
   ·have h := iteF h c1
    obtain ⟨v7, e_v7, h⟩ := ob h
    obtain ⟨e_v7a, e_v7b⟩ := idx_some e_v7
    obtain ⟨v8, e_v8, h⟩ := ob h
    have e_v8a : boundOk (s1.length + (ofStr v7).length) 1 = true := bnd_of (by have := (app_some e_v8).1; simpa using this) (by decide)
    have e_v8b : (List.map rowU8 s1) ++ (List.map rowU8 (ofStr v7)) = List.map rowU8 v8 := by rw [(app_some e_v8).2]; simp [rowU8]
    have e_v8b : List.map rowU8 (s1 ++ (ofStr v7)) = List.map rowU8 v8 := by rw [(app_some e_v8).2]
    by_cases c3 : 0 < (x1.Kids.length : Int)
    ·have h := iteT h c3
     obtain ⟨v9, e_v9, h⟩ := ob h
     have e_v9a : boundOk (v8.length + 1) 1 = true := bnd_of (by have := (app_some e_v9).1; simpa using this) (by decide)
     have e_v9b : (List.map rowU8 v8) ++ [[.lit (.int .u8 40)]] = List.map rowU8 v9 := by rw [(app_some e_v9).2]; simp [rowU8]
     obtain ⟨v10, e_v10, h⟩ := ob h
     have e_v10c := ih v9 a1 x1.Kids v10 e_v10
     obtain ⟨v11, e_v11, h⟩ := ob h
     have e_v11a : boundOk (v10.length + 1) 1 = true := bnd_of (by have := (app_some e_v11).1; simpa using this) (by decide)
     have e_v11b : (List.map rowU8 v10) ++ [[.lit (.int .u8 41)]] = List.map rowU8 v11 := by rw [(app_some e_v11).2]; simp [rowU8]
     simp only [go_sem, hx1, hi1, hw1, c1, e_v7a, e_v7b, e_v8a, e_v8b, c3, e_v9a, e_v9b, e_v10c, e_v11a, e_v11b, hR1, hE1]
     exact ih1 v11 h
    ·have h := iteF h c3
     simp only [go_sem, hx1, hi1, hw1, c1, e_v7a, e_v7b, e_v8a, e_v8b, c3, hR1, hE1]
     exact ih1 v8 h
def hedge_Print (n : Nat) (a0 : Int) (a1 : List Str) (a2 : List Node) : Option (Str × Int) :=
 (hedge_ValidHedge n a0 a2).bind fun v1 =>
 if v1 = true then
  (tree_Names a1 a0).bind fun v2 =>
  if v2 = true then
   (hedge_write n ([] : List Int) a1 a2).bind fun v3 =>
   some (strB v3, 0)
  else
   some (([] : Str), 4)
 else
  some (([] : Str), 1)
theorem spec31 (n : Nat) (a0 : Int) (a1 : List Str) (a2 : List Node) (r : Str × Int) (h : hedge_Print n a0 a1 a2 = some r) :
 call Try.prog T H (.fn 31) [.p (iv a0), .p (.sl none 1 (List.map rowS a1)), .p (.sl none 2 (List.map row_Node a2))] [] = some (.ret (.p (.tup [.lit (.string (bs r.1)), iv r.2])), []) := by
 refine Sat.fn fun Q hQ => ?_
 unfold hedge_Print at h
 rw [call31]
 conv => arg 1; arg 7; unfold S02.c31 Try.f31; simp only [Option.getD_some]
 obtain ⟨v1, e_v1, h⟩ := ob h
 have e_v1c := spec25 n a0 a2 v1 e_v1
 by_cases c1 : v1 = true
 ·have h := iteT h c1
  obtain ⟨v2, e_v2, h⟩ := ob h
  have e_v2c := spec53 a1 a0 v2 e_v2
  by_cases c2 : v2 = true
  ·have h := iteT h c2
   obtain ⟨v3, e_v3, h⟩ := ob h
   have e_v3c : call Try.prog T H (.fn 54) [.own 1 [], .p (.sl none 1 (List.map rowS a1)), .p (.sl none 2 (List.map row_Node a2))] [] = some (.ret (.own 1 (List.map rowU8 v3)), []) := spec54 n ([] : List Int) a1 a2 v3 e_v3
   simp only [go_sem, e_v1c, c1, e_v2c, c2, e_v3c, bytesR_map, strOf_bs]
   injection h with h; subst h
   exact Sat.ok hQ
  ·have h := iteF h c2
   have c2 := eq_false_of_ne_true c2
   simp only [go_sem, e_v1c, c1, e_v2c, c2]
   injection h with h; subst h
   exact Sat.ok hQ
 ·have h := iteF h c1
  have c1 := eq_false_of_ne_true c1
  simp only [go_sem, e_v1c, c1]
  injection h with h; subst h
  exact Sat.ok hQ
def ref01_letter (a0 : Int) : Option Bool :=
 if 97 ≤ a0 then
  if a0 ≤ 122 then
   some true
  else
   if 65 ≤ a0 then
    some (decide (a0 ≤ 90))
   else
    some false
 else
  if 65 ≤ a0 then
   some (decide (a0 ≤ 90))
  else
   some false
theorem spec92 (a0 : Int) (r : Bool) (h : ref01_letter a0 = some r) :
 call Try.prog T H (.fn 92) [.p (.lit (.int .u8 a0))] [] = some (.ret (.p (bv r)), []) := by
 refine Sat.fn fun Q hQ => ?_
 unfold ref01_letter at h
 rw [call92]
 conv => arg 1; arg 7; unfold S02.c92 Try.f92; simp only [Option.getD_some]
 by_cases c1 : 97 ≤ a0
 ·have h := iteT h c1
  by_cases c2 : a0 ≤ 122
  ·have h := iteT h c2
   simp only [go_sem, c1, c2]
   injection h with h; subst h
   exact Sat.ok hQ
  ·have h := iteF h c2
   by_cases c3 : 65 ≤ a0
   ·have h := iteT h c3
    simp only [go_sem, c1, c2, c3]
    injection h with h; subst h
    exact Sat.ok hQ
   ·have h := iteF h c3
    simp only [go_sem, c1, c2, c3]
    injection h with h; subst h
    exact Sat.ok hQ
 ·have h := iteF h c1
  by_cases c4 : 65 ≤ a0
  ·have h := iteT h c4
   simp only [go_sem, c1, c4]
   injection h with h; subst h
   exact Sat.ok hQ
  ·have h := iteF h c4
   simp only [go_sem, c1, c4]
   injection h with h; subst h
   exact Sat.ok hQ
def ref01_digit (a0 : Int) : Option Bool :=
 if 48 ≤ a0 then
  some (decide (a0 ≤ 57))
 else
  some false
theorem spec93 (a0 : Int) (r : Bool) (h : ref01_digit a0 = some r) :
 call Try.prog T H (.fn 93) [.p (.lit (.int .u8 a0))] [] = some (.ret (.p (bv r)), []) := by
 refine Sat.fn fun Q hQ => ?_
 unfold ref01_digit at h
 rw [call93]
 conv => arg 1; arg 7; unfold S02.c93 Try.f93; simp only [Option.getD_some]
 by_cases c1 : 48 ≤ a0
 ·have h := iteT h c1
  simp only [go_sem, c1]
  injection h with h; subst h
  exact Sat.ok hQ
 ·have h := iteF h c1
  simp only [go_sem, c1]
  injection h with h; subst h
  exact Sat.ok hQ
def ref01_Word (n : Nat) (a0 : Str) : Option Int :=
 whileL n 0 (fun k1 (s1 : Int) n1 =>
  if s1 < (a0.length : Int) then
   (idx a0 s1).bind fun v1 =>
   (ref01_letter (v1.toNat : Int)).bind fun v2 =>
   if v2 = true then
    n1 (w64 (s1 + 1))
   else
    if 0 < s1 then
     (ref01_digit (v1.toNat : Int)).bind fun v3 =>
     if v3 = true then
      n1 (w64 (s1 + 1))
     else
      k1 s1
    else
     k1 s1
  else
   k1 s1) fun s1 =>
 some s1
theorem spec78 (n : Nat) (a0 : Str) (r : Int) (h : ref01_Word n a0 = some r) :
 call Try.prog T H (.fn 78) [.p (.lit (.string (bs a0)))] [] = some (.ret (.p (iv r)), []) := by
 refine Sat.fn fun Q hQ => ?_
 unfold ref01_Word at h
 rw [call78]
 conv => arg 1; arg 7; unfold S02.c78 Try.f78; simp only [Option.getD_some]
 simp only [go_sem]
 refine run_whileL (c := L78_0) (live := [0, 3]) (by simp only [go_sem]) (M := fun (s1 : Int) => [(0, .p (.lit (.string (bs a0)))), (3, .p (iv s1))]) (Z := fun (s1 : Int) => []) (N := fun (s1 : Int) => ⟨[(3, .p (iv s1))], [], [], none, false⟩) h rfl rfl (fun _ => rfl) ?_ ?_
 ·intro s1 h
  try dsimp only at h ⊢
  simp only [go_sem]
  injection h with h; subst h
  exact Sat.ok hQ
 ·intro K1 k1 s1 n1 hR1 hE1 hb1 ih1 h
  try dsimp only at h ⊢
  conv => arg 1; arg 7; unfold L78_0 loopAt S02.c78 Try.f78; simp only [loopIn, Option.getD_some, if_true]
  by_cases c1 : s1 < (a0.length : Int)
  ·have h := iteT h c1
   obtain ⟨v1, e_v1, h⟩ := ob h
   obtain ⟨e_v1a, e_v1b⟩ := idx_some e_v1
   obtain ⟨v2, e_v2, h⟩ := ob h
   have e_v2c : call Try.prog T H (.fn 92) [.p (.lit (.int .u8 (v1.toNat : Int)))] [] = some (.ret (.p (bv v2)), []) := spec92 (v1.toNat : Int) v2 e_v2
   by_cases c2 : v2 = true
   ·have h := iteT h c2
    simp only [go_sem, c1, e_v1a, e_v1b, e_v2c, c2, hR1, hE1]
    exact ih1 (w64 (s1 + 1)) h
   ·have h := iteF h c2
    have c2 := eq_false_of_ne_true c2
    by_cases c3 : 0 < s1
    ·have h := iteT h c3
     obtain ⟨v3, e_v3, h⟩ := ob h
     have e_v3c : call Try.prog T H (.fn 93) [.p (.lit (.int .u8 (v1.toNat : Int)))] [] = some (.ret (.p (bv v3)), []) := spec93 (v1.toNat : Int) v3 e_v3
     by_cases c4 : v3 = true
     ·have h := iteT h c4
      simp only [go_sem, c1, e_v1a, e_v1b, e_v2c, c2, c3, e_v3c, c4, hR1, hE1]
      exact ih1 (w64 (s1 + 1)) h
     ·have h := iteF h c4
      have c4 := eq_false_of_ne_true c4
      simp only [go_sem, c1, e_v1a, e_v1b, e_v2c, c2, c3, e_v3c, c4, hR1, hE1]
      exact hb1 s1 h
    ·have h := iteF h c3
     simp only [go_sem, c1, e_v1a, e_v1b, e_v2c, c2, c3, hR1, hE1]
     exact hb1 s1 h
  ·have h := iteF h c1
   simp only [go_sem, c1, hR1, hE1]
   exact hb1 s1 h
def ref01_Name (n : Nat) (a0 : Str) : Option Bool :=
 if a0 = ([] : Str) then
  some false
 else
  if (a0.length : Int) ≤ 12 then
   (ref01_Word n a0).bind fun v1 =>
   some (v1 == (a0.length : Int))
  else
   some false
theorem spec72 (n : Nat) (a0 : Str) (r : Bool) (h : ref01_Name n a0 = some r) :
 call Try.prog T H (.fn 72) [.p (.lit (.string (bs a0)))] [] = some (.ret (.p (bv r)), []) := by
 refine Sat.fn fun Q hQ => ?_
 unfold ref01_Name at h
 rw [call72]
 conv => arg 1; arg 7; unfold S02.c72 Try.f72; simp only [Option.getD_some]
 by_cases c1 : a0 = ([] : Str)
 ·have h := iteT h c1
  have c1b : (a0 == ([] : Str)) = true := beqT c1
  simp only [go_sem, c1b]
  injection h with h; subst h
  exact Sat.ok hQ
 ·have h := iteF h c1
  have c1b : (a0 == ([] : Str)) = false := beqF c1
  by_cases c2 : (a0.length : Int) ≤ 12
  ·have h := iteT h c2
   obtain ⟨v1, e_v1, h⟩ := ob h
   have e_v1c := spec78 n a0 v1 e_v1
   simp only [go_sem, c1b, c2, e_v1c]
   injection h with h; subst h
   exact Sat.ok hQ
  ·have h := iteF h c2
   simp only [go_sem, c1b, c2]
   injection h with h; subst h
   exact Sat.ok hQ
def ref01_Place (a0 : List Str) (a1 : Str) : Option Int :=
 rangeL a0 () (fun k1 i1 x1 (s1 : Unit) n1 =>
  if x1 = a1 then
   some (i1 : Int)
  else
   n1 ()) fun s1 =>
 some (-1)
theorem spec73 (a0 : List Str) (a1 : Str) (r : Int) (h : ref01_Place a0 a1 = some r) :
 call Try.prog T H (.fn 73) [.p (.sl none 1 (List.map rowS a0)), .p (.lit (.string (bs a1)))] [] = some (.ret (.p (iv r)), []) := by
 refine Sat.fn fun Q hQ => ?_
 unfold ref01_Place at h
 rw [call73]
 conv => arg 1; arg 7; unfold S02.c73 Try.f73; simp only [Option.getD_some]
 simp only [go_sem]
 refine run_rangeL (c := L73_0) (live := [1, 7, 8, 9]) (by simp only [go_sem]) (M := fun i1 (s1 : Unit) => [(1, .p (.lit (.string (bs a1)))), (7, .p (.sl none 1 (List.map rowS a0))), (8, .p (iv (a0.length : Int))), (9, .p (iv (i1 : Int)))]) (Z := fun i1 (s1 : Unit) => []) (N := fun (s1 : Unit) => ⟨[], [], [], none, false⟩) h rfl rfl (fun _ _ => rfl) ?_ ?_ ?_
 ·intro s1 h
  try dsimp only at h ⊢
  simp only [go_sem]
  injection h with h; subst h
  exact Sat.ok hQ
 ·intro K1 s1 hb1 he1
  try dsimp only
  conv => arg 1; arg 7; unfold L73_0 loopAt S02.c73 Try.f73; simp only [loopIn, Option.getD_some, if_true]
  simp only [go_sem, he1]
  exact hb1
 ·intro K1 k1 i1 x1 s1 n1 hR1 hE1 hb1 hx1 hi1 hw1 ih1 h
  try dsimp only at h ⊢
  conv => arg 1; arg 7; unfold L73_0 loopAt S02.c73 Try.f73; simp only [loopIn, Option.getD_some, if_true]
  by_cases c1 : x1 = a1
  ·have h := iteT h c1
   have c1b : (x1 == a1) = true := beqT c1
   simp only [go_sem, hx1, hi1, hw1, c1b, hR1, hE1]
   injection h with h; subst h
   exact Sat.ok hQ
  ·have h := iteF h c1
   have c1b : (x1 == a1) = false := beqF c1
   simp only [go_sem, hx1, hi1, hw1, c1b, hR1, hE1]
   exact ih1 () h
def ref01_Names (n : Nat) (a0 : List Str) (a1 : Int) : Option Bool :=
 if (a0.length : Int) = a1 then
  rangeL a0 () (fun k1 i1 x1 (s1 : Unit) n1 =>
   (ref01_Name n x1).bind fun v1 =>
   if v1 = true then
    (slcT a0 (i1 : Int)).bind fun v2 =>
    (ref01_Place v2 x1).bind fun v3 =>
    if 0 ≤ v3 then
     some false
    else
     n1 ()
   else
    some false) fun s1 =>
  some true
 else
  some false
theorem spec55 (n : Nat) (a0 : List Str) (a1 : Int) (r : Bool) (h : ref01_Names n a0 a1 = some r) :
 call Try.prog T H (.fn 55) [.p (.sl none 1 (List.map rowS a0)), .p (iv a1)] [] = some (.ret (.p (bv r)), []) := by
 refine Sat.fn fun Q hQ => ?_
 unfold ref01_Names at h
 rw [call55]
 conv => arg 1; arg 7; unfold S02.c55 Try.f55; simp only [Option.getD_some]
 by_cases c1 : (a0.length : Int) = a1
 ·have h := iteT h c1
  have c1b : ((a0.length : Int) != a1) = false := bneF c1
  simp only [go_sem, c1b]
  refine run_rangeL (c := L55_0) (live := [0, 11, 12, 13]) (by simp only [go_sem]) (M := fun i1 (s1 : Unit) => [(0, .p (.sl none 1 (List.map rowS a0))), (11, .p (.sl none 1 (List.map rowS a0))), (12, .p (iv (a0.length : Int))), (13, .p (iv (i1 : Int)))]) (Z := fun i1 (s1 : Unit) => []) (N := fun (s1 : Unit) => ⟨[], [], [], none, false⟩) h rfl rfl (fun _ _ => rfl) ?_ ?_ ?_
  ·intro s1 h
   try dsimp only at h ⊢
   simp only [go_sem]
   injection h with h; subst h
   exact Sat.ok hQ
  ·intro K1 s1 hb1 he1
   try dsimp only
   conv => arg 1; arg 7; unfold L55_0 loopAt S02.c55 Try.f55; simp only [loopIn, Option.getD_some, if_true]
   simp only [go_sem, he1]
   exact hb1
  ·intro K1 k1 i1 x1 s1 n1 hR1 hE1 hb1 hx1 hi1 hw1 ih1 h
   try dsimp only at h ⊢
   conv => arg 1; arg 7; unfold L55_0 loopAt S02.c55 Try.f55; simp only [loopIn, Option.getD_some, if_true]
   obtain ⟨v1, e_v1, h⟩ := ob h
   have e_v1c := spec72 n x1 v1 e_v1
   by_cases c2 : v1 = true
   ·have h := iteT h c2
    obtain ⟨v2, e_v2, h⟩ := ob h
    obtain ⟨e_v21, e_v22, e_v23, e_v24⟩ := slcT_some e_v2
    try simp only [Int.toNat_natCast] at e_v21
    try simp only [Int.toNat_natCast] at e_v23
    try simp only [Int.toNat_natCast] at e_v24
    obtain ⟨v3, e_v3, h⟩ := ob h
    have e_v3c := spec73 v2 x1 v3 e_v3
    by_cases c3 : 0 ≤ v3
    ·have h := iteT h c3
     simp only [go_sem, hx1, hi1, hw1, e_v1c, c2, e_v21, e_v23, ← e_v24, e_v3c, c3, hR1, hE1]
     injection h with h; subst h
     exact Sat.ok hQ
    ·have h := iteF h c3
     simp only [go_sem, hx1, hi1, hw1, e_v1c, c2, e_v21, e_v23, ← e_v24, e_v3c, c3, hR1, hE1]
     exact ih1 () h
   ·have h := iteF h c2
    have c2 := eq_false_of_ne_true c2
    simp only [go_sem, hx1, hi1, hw1, e_v1c, c2, hR1, hE1]
    injection h with h; subst h
    exact Sat.ok hQ
 ·have h := iteF h c1
  have c1b : ((a0.length : Int) != a1) = true := bneT c1
  simp only [go_sem, c1b]
  injection h with h; subst h
  exact Sat.ok hQ
def ref02_Write : Nat → (List Str) → (List Node) → Option Str
 | 0, _, _ => none
 | n + 1, a0, a1 =>
  rangeL a1 ([] : Str) (fun k1 i1 x1 (s1 : Str) n1 =>
   if 0 < (i1 : Int) then
    (cat s1 ([32] : Str)).bind fun v1 =>
    (idx a0 x1.Label).bind fun v2 =>
    (cat v1 v2).bind fun v3 =>
    if 0 < (x1.Kids.length : Int) then
     (ref02_Write n a0 x1.Kids).bind fun v4 =>
     (cat ([40] : Str) v4).bind fun v5 =>
     (cat v5 ([41] : Str)).bind fun v6 =>
     (cat v3 v6).bind fun v7 =>
     n1 v7
    else
     n1 v3
   else
    (idx a0 x1.Label).bind fun v8 =>
    (cat s1 v8).bind fun v9 =>
    if 0 < (x1.Kids.length : Int) then
     (ref02_Write n a0 x1.Kids).bind fun v10 =>
     (cat ([40] : Str) v10).bind fun v11 =>
     (cat v11 ([41] : Str)).bind fun v12 =>
     (cat v9 v12).bind fun v13 =>
     n1 v13
    else
     n1 v9) fun s1 =>
  some s1
theorem spec56 : ∀ (n : Nat), (∀ (a0 : List Str) (a1 : List Node) (r : Str), ref02_Write n a0 a1 = some r →
 call Try.prog T H (.fn 56) [.p (.sl none 1 (List.map rowS a0)), .p (.sl none 2 (List.map row_Node a1))] [] = some (.ret (.p (.lit (.string (bs r)))), [])) := by
 intro n
 induction n with
 | zero => intro a0 a1 r h; cases h
 | succ n ih =>
  intro a0 a1 r h
  refine Sat.fn fun Q hQ => ?_
  rw [ref02_Write] at h
  rw [call56]
  conv => arg 1; arg 7; unfold S02.c56 Try.f56; simp only [Option.getD_some]
  simp only [go_sem]
  refine run_rangeL (c := L56_0) (live := [0, 5, 8, 9, 10]) (by simp only [go_sem]) (M := fun i1 (s1 : Str) => [(0, .p (.sl none 1 (List.map rowS a0))), (5, .p (.lit (.string (bs s1)))), (8, .p (.sl none 2 (List.map row_Node a1))), (9, .p (iv (a1.length : Int))), (10, .p (iv (i1 : Int)))]) (Z := fun i1 (s1 : Str) => []) (N := fun (s1 : Str) => ⟨[(5, .p (.lit (.string (bs s1))))], [], [], none, false⟩) h rfl rfl (fun _ _ => rfl) ?_ ?_ ?_
  ·intro s1 h
   try dsimp only at h ⊢
   simp only [go_sem]
   injection h with h; subst h
   exact Sat.ok hQ
  ·intro K1 s1 hb1 he1
   try dsimp only
   conv => arg 1; arg 7; unfold L56_0 loopAt S02.c56 Try.f56; simp only [loopIn, Option.getD_some, if_true]
   simp only [go_sem, he1]
   exact hb1
  ·intro K1 k1 i1 x1 s1 n1 hR1 hE1 hb1 hx1 hi1 hw1 ih1 h
   try dsimp only at h ⊢
   conv => arg 1; arg 7; unfold L56_0 loopAt S02.c56 Try.f56; simp only [loopIn, Option.getD_some, if_true]
   by_cases c1 : 0 < (i1 : Int)
   ·have h := iteT h c1
    obtain ⟨v1, e_v1, h⟩ := ob h
    have e_v1a := (cat_some e_v1).1
    have e_v1b := (cat_some e_v1).2
    simp only [go_sem] at e_v1a
    try simp only [go_sem] at e_v1b
    obtain ⟨v2, e_v2, h⟩ := ob h
    obtain ⟨e_v2a, e_v2b⟩ := idx_some e_v2
    obtain ⟨v3, e_v3, h⟩ := ob h
    have e_v3a := (cat_some e_v3).1
    have e_v3b := (cat_some e_v3).2
    simp only [go_sem] at e_v3a
    try simp only [go_sem] at e_v3b
    by_cases c2 : 0 < (x1.Kids.length : Int)
    ·have h := iteT h c2
     obtain ⟨v4, e_v4, h⟩ := ob h
     have e_v4c := ih a0 x1.Kids v4 e_v4
     obtain ⟨v5, e_v5, h⟩ := ob h
     have e_v5a := (cat_some e_v5).1
     have e_v5b := (cat_some e_v5).2
     simp only [go_sem] at e_v5a
     try simp only [go_sem] at e_v5b
     obtain ⟨v6, e_v6, h⟩ := ob h
     have e_v6a := (cat_some e_v6).1
     have e_v6b := (cat_some e_v6).2
     simp only [go_sem] at e_v6a
     try simp only [go_sem] at e_v6b
     obtain ⟨v7, e_v7, h⟩ := ob h
     have e_v7a := (cat_some e_v7).1
     have e_v7b := (cat_some e_v7).2
     simp only [go_sem] at e_v7a
     try simp only [go_sem] at e_v7b
     simp only [go_sem, hx1, hi1, hw1, c1, e_v1a, e_v1b, e_v2a, e_v2b, e_v3a, e_v3b, c2, e_v4c, e_v5a, e_v5b, e_v6a, e_v6b, e_v7a, e_v7b, hR1, hE1]
     exact ih1 v7 h
    ·have h := iteF h c2
     simp only [go_sem, hx1, hi1, hw1, c1, e_v1a, e_v1b, e_v2a, e_v2b, e_v3a, e_v3b, c2, hR1, hE1]
     exact ih1 v3 h
   ·have h := iteF h c1
    obtain ⟨v8, e_v8, h⟩ := ob h
    obtain ⟨e_v8a, e_v8b⟩ := idx_some e_v8
    obtain ⟨v9, e_v9, h⟩ := ob h
    have e_v9a := (cat_some e_v9).1
    have e_v9b := (cat_some e_v9).2
    simp only [go_sem] at e_v9a
    try simp only [go_sem] at e_v9b
    by_cases c3 : 0 < (x1.Kids.length : Int)
    ·have h := iteT h c3
     obtain ⟨v10, e_v10, h⟩ := ob h
     have e_v10c := ih a0 x1.Kids v10 e_v10
     obtain ⟨v11, e_v11, h⟩ := ob h
     have e_v11a := (cat_some e_v11).1
     have e_v11b := (cat_some e_v11).2
     simp only [go_sem] at e_v11a
     try simp only [go_sem] at e_v11b
     obtain ⟨v12, e_v12, h⟩ := ob h
     have e_v12a := (cat_some e_v12).1
     have e_v12b := (cat_some e_v12).2
     simp only [go_sem] at e_v12a
     try simp only [go_sem] at e_v12b
     obtain ⟨v13, e_v13, h⟩ := ob h
     have e_v13a := (cat_some e_v13).1
     have e_v13b := (cat_some e_v13).2
     simp only [go_sem] at e_v13a
     try simp only [go_sem] at e_v13b
     simp only [go_sem, hx1, hi1, hw1, c1, e_v8a, e_v8b, e_v9a, e_v9b, c3, e_v10c, e_v11a, e_v11b, e_v12a, e_v12b, e_v13a, e_v13b, hR1, hE1]
     exact ih1 v13 h
    ·have h := iteF h c3
     simp only [go_sem, hx1, hi1, hw1, c1, e_v8a, e_v8b, e_v9a, e_v9b, c3, hR1, hE1]
     exact ih1 v9 h
def ref02_Print (n : Nat) (a0 : Int) (a1 : List Str) (a2 : List Node) : Option (Str × Int) :=
 (ref02_ValidHedge n a0 a2).bind fun v1 =>
 if v1 = true then
  (ref01_Names n a1 a0).bind fun v2 =>
  if v2 = true then
   (ref02_Write n a1 a2).bind fun v3 =>
   some (v3, 0)
  else
   some (([] : Str), 4)
 else
  some (([] : Str), 1)
theorem spec32 (n : Nat) (a0 : Int) (a1 : List Str) (a2 : List Node) (r : Str × Int) (h : ref02_Print n a0 a1 a2 = some r) :
 call Try.prog T H (.fn 32) [.p (iv a0), .p (.sl none 1 (List.map rowS a1)), .p (.sl none 2 (List.map row_Node a2))] [] = some (.ret (.p (.tup [.lit (.string (bs r.1)), iv r.2])), []) := by
 refine Sat.fn fun Q hQ => ?_
 unfold ref02_Print at h
 rw [call32]
 conv => arg 1; arg 7; unfold S02.c32 Try.f32; simp only [Option.getD_some]
 obtain ⟨v1, e_v1, h⟩ := ob h
 have e_v1c := spec26 n a0 a2 v1 e_v1
 by_cases c1 : v1 = true
 ·have h := iteT h c1
  obtain ⟨v2, e_v2, h⟩ := ob h
  have e_v2c := spec55 n a1 a0 v2 e_v2
  by_cases c2 : v2 = true
  ·have h := iteT h c2
   obtain ⟨v3, e_v3, h⟩ := ob h
   have e_v3c := spec56 n a1 a2 v3 e_v3
   simp only [go_sem, e_v1c, c1, e_v2c, c2, e_v3c]
   injection h with h; subst h
   exact Sat.ok hQ
  ·have h := iteF h c2
   have c2 := eq_false_of_ne_true c2
   simp only [go_sem, e_v1c, c1, e_v2c, c2]
   injection h with h; subst h
   exact Sat.ok hQ
 ·have h := iteF h c1
  have c1 := eq_false_of_ne_true c1
  simp only [go_sem, e_v1c, c1]
  injection h with h; subst h
  exact Sat.ok hQ
def tree_Known (a0 : List Str) (a1 : Str) : Option (Option Int) :=
 (slices_Index_Lstring_string a0 a1).bind fun v1 =>
 if v1 < 0 then
  some none
 else
  some (some v1)
theorem spec87 (a0 : List Str) (a1 : Str) (r : Option Int) (h : tree_Known a0 a1 = some r) :
 call Try.prog T H (.fn 87) [.p (.sl none 1 (List.map rowS a0)), .p (.lit (.string (bs a1)))] [] = some (outP (.ifc 114 (.agg [])) (fun (x : Int) => .p (iv x)) r, []) := by
 refine Sat.fn fun Q hQ => ?_
 unfold tree_Known at h
 rw [call87]
 conv => arg 1; arg 7; unfold S02.c87 Try.f87; simp only [Option.getD_some]
 obtain ⟨v1, e_v1, h⟩ := ob h
 have e_v1c := spec85 a0 a1 v1 e_v1
 by_cases c1 : v1 < 0
 ·have h := iteT h c1
  simp only [go_sem, e_v1c, c1]
  injection h with h; subst h
  exact Sat.ok hQ
 ·have h := iteF h c1
  simp only [go_sem, e_v1c, c1]
  injection h with h; subst h
  exact Sat.ok hQ
def tree_Reader_Skip (n : Nat) (a0 : tree_Reader) : Option (Bool × tree_Reader) :=
 whileL n a0.at_ (fun k1 (s1 : Int) n1 =>
  if s1 < (a0.text.length : Int) then
   (idx a0.text s1).bind fun v1 =>
   if (v1.toNat : Int) = 32 then
    n1 (w64 (s1 + 1))
   else
    k1 s1
  else
   k1 s1) fun s1 =>
 some (decide (a0.at_ < s1), (tree_Reader.mk a0.text s1))
theorem spec91 (n : Nat) (σ : List AObj) (p0 : Nat) (hp0 : p0 < σ.length) (a0 : tree_Reader) (r : Bool × tree_Reader) (h : tree_Reader_Skip n a0 = some r) :
 call Try.prog T H (.fn 91) [.ptr p0 0] (List.set σ p0 (.cells [.p (.lit (.string (bs a0.text))), .p (iv a0.at_)])) = some (.ret (.p (bv r.1)), (List.set σ p0 (.cells [.p (.lit (.string (bs r.2.text))), .p (iv r.2.at_)]))) := by
 refine Sat.fn fun Q hQ => ?_
 unfold tree_Reader_Skip at h
 rw [call91]
 conv => arg 1; arg 7; unfold S02.c91 Try.f91; simp only [Option.getD_some]
 simp only [go_sem, hp0, fun k => Nat.lt_add_right k hp0, Nat.not_le_of_lt hp0, fun k => Nat.not_le_of_lt (Nat.lt_add_right k hp0)]
 refine run_whileL (c := L91_0) (live := [0, 3]) (by simp only [go_sem]) (M := fun (s1 : Int) => [(0, .ptr p0 0), (3, .p (iv a0.at_))]) (Z := fun (s1 : Int) => (List.set σ p0 (.cells [.p (.lit (.string (bs a0.text))), .p (iv s1)]))) (N := fun (s1 : Int) => ⟨[(0, .ptr p0 0), (3, .p (iv a0.at_))], (List.set σ p0 (.cells [.p (.lit (.string (bs a0.text))), .p (iv s1)])), [], none, false⟩) h rfl rfl (fun _ => rfl) ?_ ?_
 ·intro s1 h
  try dsimp only at h ⊢
  simp only [go_sem, hp0, fun k => Nat.lt_add_right k hp0, Nat.not_le_of_lt hp0, fun k => Nat.not_le_of_lt (Nat.lt_add_right k hp0)]
  injection h with h; subst h
  exact Sat.ok hQ
 ·intro K1 k1 s1 n1 hR1 hE1 hb1 ih1 h
  try dsimp only at h ⊢
  conv => arg 1; arg 7; unfold L91_0 loopAt S02.c91 Try.f91; simp only [loopIn, Option.getD_some, if_true]
  by_cases c1 : s1 < (a0.text.length : Int)
  ·have h := iteT h c1
   obtain ⟨v1, e_v1, h⟩ := ob h
   obtain ⟨e_v1a, e_v1b⟩ := idx_some e_v1
   by_cases c2 : (v1.toNat : Int) = 32
   ·have h := iteT h c2
    have c2b : ((v1.toNat : Int) == 32) = true := beqT c2
    simp only [go_sem, c1, e_v1a, e_v1b, c2b, hR1, hE1, hp0, fun k => Nat.lt_add_right k hp0, Nat.not_le_of_lt hp0, fun k => Nat.not_le_of_lt (Nat.lt_add_right k hp0)]
    exact ih1 (w64 (s1 + 1)) h
   ·have h := iteF h c2
    have c2b : ((v1.toNat : Int) == 32) = false := beqF c2
    simp only [go_sem, c1, e_v1a, e_v1b, c2b, hR1, hE1, hp0, fun k => Nat.lt_add_right k hp0, Nat.not_le_of_lt hp0, fun k => Nat.not_le_of_lt (Nat.lt_add_right k hp0)]
    exact hb1 s1 h
  ·have h := iteF h c1
   simp only [go_sem, c1, hR1, hE1, hp0, fun k => Nat.lt_add_right k hp0, Nat.not_le_of_lt hp0, fun k => Nat.not_le_of_lt (Nat.lt_add_right k hp0)]
   exact hb1 s1 h
def tree_Reader_Next (n : Nat) (a0 : tree_Reader) : Option (Int × tree_Reader) :=
 (tree_Reader_Skip n a0).bind fun v1 =>
 if v1.2.at_ = (v1.2.text.length : Int) then
  some (0, v1.2)
 else
  (idx v1.2.text v1.2.at_).bind fun v2 =>
  some ((v2.toNat : Int), v1.2)
theorem spec86 (n : Nat) (σ : List AObj) (p0 : Nat) (hp0 : p0 < σ.length) (a0 : tree_Reader) (r : Int × tree_Reader) (h : tree_Reader_Next n a0 = some r) :
 call Try.prog T H (.fn 86) [.ptr p0 0] (List.set σ p0 (.cells [.p (.lit (.string (bs a0.text))), .p (iv a0.at_)])) = some (.ret (.p (.lit (.int .u8 r.1))), (List.set σ p0 (.cells [.p (.lit (.string (bs r.2.text))), .p (iv r.2.at_)]))) := by
 refine Sat.fn fun Q hQ => ?_
 unfold tree_Reader_Next at h
 rw [call86]
 conv => arg 1; arg 7; unfold S02.c86 Try.f86; simp only [Option.getD_some]
 obtain ⟨v1, e_v1, h⟩ := ob h
 have e_v1c : call Try.prog T H (.fn 91) [.ptr p0 0] (List.set σ p0 (.cells [.p (.lit (.string (bs a0.text))), .p (iv a0.at_)])) = some (.ret (.p (bv v1.1)), (List.set σ p0 (.cells [.p (.lit (.string (bs v1.2.text))), .p (iv v1.2.at_)]))) := by have q := spec91 n (List.set σ p0 (.cells [.p (.lit (.string (bs a0.text))), .p (iv a0.at_)])) p0 (by simp only [List.length_append, List.length_set, List.length_cons, List.length_nil]; omega) a0 v1 e_v1; first | (simp only [go_sem, hp0, fun k => Nat.lt_add_right k hp0, Nat.not_le_of_lt hp0, fun k => Nat.not_le_of_lt (Nat.lt_add_right k hp0)] at q ⊢; exact q) | exact q
 by_cases c1 : v1.2.at_ = (v1.2.text.length : Int)
 ·have h := iteT h c1
  have c1b : (v1.2.at_ == (v1.2.text.length : Int)) = true := beqT c1
  simp only [go_sem, e_v1c, c1b, hp0, fun k => Nat.lt_add_right k hp0, Nat.not_le_of_lt hp0, fun k => Nat.not_le_of_lt (Nat.lt_add_right k hp0)]
  injection h with h; subst h
  exact Sat.ok hQ
 ·have h := iteF h c1
  have c1b : (v1.2.at_ == (v1.2.text.length : Int)) = false := beqF c1
  obtain ⟨v2, e_v2, h⟩ := ob h
  obtain ⟨e_v2a, e_v2b⟩ := idx_some e_v2
  simp only [go_sem, e_v1c, c1b, e_v2a, e_v2b, hp0, fun k => Nat.lt_add_right k hp0, Nat.not_le_of_lt hp0, fun k => Nat.not_le_of_lt (Nat.lt_add_right k hp0)]
  injection h with h; subst h
  exact Sat.ok hQ
def tree_Reader_Name (n : Nat) (a0 : tree_Reader) : Option ((Option Str) × tree_Reader) :=
 (tree_Reader_Skip n a0).bind fun v1 =>
 whileL n v1.2.at_ (fun k1 (s1 : Int) n1 =>
  if s1 < (v1.2.text.length : Int) then
   (idx v1.2.text s1).bind fun v4 =>
   (tree_letter (v4.toNat : Int)).bind fun v5 =>
   if v5 = true then
    n1 (w64 (s1 + 1))
   else
    (tree_digit (v4.toNat : Int)).bind fun v6 =>
    if v6 = true then
     n1 (w64 (s1 + 1))
    else
     k1 s1
  else
   k1 s1) fun s1 =>
 (slc v1.2.text v1.2.at_ s1).bind fun v2 =>
 (tree_Name v2).bind fun v3 =>
 if v3 = true then
  some (some v2, (tree_Reader.mk v1.2.text s1))
 else
  some (none, (tree_Reader.mk v1.2.text s1))
theorem spec88 (n : Nat) (σ : List AObj) (p0 : Nat) (hp0 : p0 < σ.length) (a0 : tree_Reader) (r : (Option Str) × tree_Reader) (h : tree_Reader_Name n a0 = some r) :
 call Try.prog T H (.fn 88) [.ptr p0 0] (List.set σ p0 (.cells [.p (.lit (.string (bs a0.text))), .p (iv a0.at_)])) = some (outP (.ifc 114 (.agg [])) (fun (x : Str) => .p (.lit (.string (bs x)))) r.1, (List.set σ p0 (.cells [.p (.lit (.string (bs r.2.text))), .p (iv r.2.at_)]))) := by
 refine Sat.fn fun Q hQ => ?_
 unfold tree_Reader_Name at h
 rw [call88]
 conv => arg 1; arg 7; unfold S02.c88 Try.f88; simp only [Option.getD_some]
 obtain ⟨v1, e_v1, h⟩ := ob h
 have e_v1c : call Try.prog T H (.fn 91) [.ptr p0 0] (List.set σ p0 (.cells [.p (.lit (.string (bs a0.text))), .p (iv a0.at_)])) = some (.ret (.p (bv v1.1)), (List.set σ p0 (.cells [.p (.lit (.string (bs v1.2.text))), .p (iv v1.2.at_)]))) := by have q := spec91 n (List.set σ p0 (.cells [.p (.lit (.string (bs a0.text))), .p (iv a0.at_)])) p0 (by simp only [List.length_append, List.length_set, List.length_cons, List.length_nil]; omega) a0 v1 e_v1; first | (simp only [go_sem, hp0, fun k => Nat.lt_add_right k hp0, Nat.not_le_of_lt hp0, fun k => Nat.not_le_of_lt (Nat.lt_add_right k hp0)] at q ⊢; exact q) | exact q
 simp only [go_sem, e_v1c, hp0, fun k => Nat.lt_add_right k hp0, Nat.not_le_of_lt hp0, fun k => Nat.not_le_of_lt (Nat.lt_add_right k hp0)]
 refine run_whileL (c := L88_0) (live := [0, 3]) (by simp only [go_sem]) (M := fun (s1 : Int) => [(0, .ptr p0 0), (3, .p (iv v1.2.at_))]) (Z := fun (s1 : Int) => (List.set σ p0 (.cells [.p (.lit (.string (bs v1.2.text))), .p (iv s1)]))) (N := fun (s1 : Int) => ⟨[(0, .ptr p0 0), (3, .p (iv v1.2.at_))], (List.set σ p0 (.cells [.p (.lit (.string (bs v1.2.text))), .p (iv s1)])), [], none, false⟩) h rfl rfl (fun _ => rfl) ?_ ?_
 ·intro s1 h
  try dsimp only at h ⊢
  obtain ⟨v2, e_v2, h⟩ := ob h
  obtain ⟨e_v21, e_v22, e_v23, e_v24, e_v25⟩ := slc_some e_v2
  obtain ⟨v3, e_v3, h⟩ := ob h
  have e_v3c := spec70 v2 v3 e_v3
  by_cases c1 : v3 = true
  ·have h := iteT h c1
   simp only [go_sem, e_v21, e_v22, e_v23, e_v24, ← e_v25, e_v3c, c1, hp0, fun k => Nat.lt_add_right k hp0, Nat.not_le_of_lt hp0, fun k => Nat.not_le_of_lt (Nat.lt_add_right k hp0)]
   injection h with h; subst h
   exact Sat.ok hQ
  ·have h := iteF h c1
   have c1 := eq_false_of_ne_true c1
   simp only [go_sem, e_v21, e_v22, e_v23, e_v24, ← e_v25, e_v3c, c1, hp0, fun k => Nat.lt_add_right k hp0, Nat.not_le_of_lt hp0, fun k => Nat.not_le_of_lt (Nat.lt_add_right k hp0)]
   injection h with h; subst h
   exact Sat.ok hQ
 ·intro K1 k1 s1 n1 hR1 hE1 hb1 ih1 h
  try dsimp only at h ⊢
  conv => arg 1; arg 7; unfold L88_0 loopAt S02.c88 Try.f88; simp only [loopIn, Option.getD_some, if_true]
  by_cases c2 : s1 < (v1.2.text.length : Int)
  ·have h := iteT h c2
   obtain ⟨v4, e_v4, h⟩ := ob h
   obtain ⟨e_v4a, e_v4b⟩ := idx_some e_v4
   obtain ⟨v5, e_v5, h⟩ := ob h
   have e_v5c : call Try.prog T H (.fn 83) [.p (.lit (.int .u8 (v4.toNat : Int)))] [] = some (.ret (.p (bv v5)), []) := spec83 (v4.toNat : Int) v5 e_v5
   by_cases c3 : v5 = true
   ·have h := iteT h c3
    simp only [go_sem, c2, e_v4a, e_v4b, e_v5c, c3, hR1, hE1, hp0, fun k => Nat.lt_add_right k hp0, Nat.not_le_of_lt hp0, fun k => Nat.not_le_of_lt (Nat.lt_add_right k hp0)]
    exact ih1 (w64 (s1 + 1)) h
   ·have h := iteF h c3
    have c3 := eq_false_of_ne_true c3
    obtain ⟨v6, e_v6, h⟩ := ob h
    have e_v6c : call Try.prog T H (.fn 84) [.p (.lit (.int .u8 (v4.toNat : Int)))] [] = some (.ret (.p (bv v6)), []) := spec84 (v4.toNat : Int) v6 e_v6
    by_cases c4 : v6 = true
    ·have h := iteT h c4
     simp only [go_sem, c2, e_v4a, e_v4b, e_v5c, c3, e_v6c, c4, hR1, hE1, hp0, fun k => Nat.lt_add_right k hp0, Nat.not_le_of_lt hp0, fun k => Nat.not_le_of_lt (Nat.lt_add_right k hp0)]
     exact ih1 (w64 (s1 + 1)) h
    ·have h := iteF h c4
     have c4 := eq_false_of_ne_true c4
     simp only [go_sem, c2, e_v4a, e_v4b, e_v5c, c3, e_v6c, c4, hR1, hE1, hp0, fun k => Nat.lt_add_right k hp0, Nat.not_le_of_lt hp0, fun k => Nat.not_le_of_lt (Nat.lt_add_right k hp0)]
     exact hb1 s1 h
  ·have h := iteF h c2
   simp only [go_sem, c2, hR1, hE1, hp0, fun k => Nat.lt_add_right k hp0, Nat.not_le_of_lt hp0, fun k => Nat.not_le_of_lt (Nat.lt_add_right k hp0)]
   exact hb1 s1 h
def tree_Reader_Is (n : Nat) (a0 : tree_Reader) (a1 : Int) : Option (Bool × tree_Reader) :=
 (tree_Reader_Skip n a0).bind fun v1 =>
 if v1.2.at_ < (v1.2.text.length : Int) then
  (idx v1.2.text v1.2.at_).bind fun v2 =>
  if (v2.toNat : Int) = a1 then
   some (true, (tree_Reader.mk v1.2.text (w64 (v1.2.at_ + 1))))
  else
   some (false, v1.2)
 else
  some (false, v1.2)
theorem spec89 (n : Nat) (σ : List AObj) (p0 : Nat) (hp0 : p0 < σ.length) (a0 : tree_Reader) (a1 : Int) (r : Bool × tree_Reader) (h : tree_Reader_Is n a0 a1 = some r) :
 call Try.prog T H (.fn 89) [.ptr p0 0, .p (.lit (.int .u8 a1))] (List.set σ p0 (.cells [.p (.lit (.string (bs a0.text))), .p (iv a0.at_)])) = some (.ret (.p (bv r.1)), (List.set σ p0 (.cells [.p (.lit (.string (bs r.2.text))), .p (iv r.2.at_)]))) := by
 refine Sat.fn fun Q hQ => ?_
 unfold tree_Reader_Is at h
 rw [call89]
 conv => arg 1; arg 7; unfold S02.c89 Try.f89; simp only [Option.getD_some]
 obtain ⟨v1, e_v1, h⟩ := ob h
 have e_v1c : call Try.prog T H (.fn 91) [.ptr p0 0] (List.set σ p0 (.cells [.p (.lit (.string (bs a0.text))), .p (iv a0.at_)])) = some (.ret (.p (bv v1.1)), (List.set σ p0 (.cells [.p (.lit (.string (bs v1.2.text))), .p (iv v1.2.at_)]))) := by have q := spec91 n (List.set σ p0 (.cells [.p (.lit (.string (bs a0.text))), .p (iv a0.at_)])) p0 (by simp only [List.length_append, List.length_set, List.length_cons, List.length_nil]; omega) a0 v1 e_v1; first | (simp only [go_sem, hp0, fun k => Nat.lt_add_right k hp0, Nat.not_le_of_lt hp0, fun k => Nat.not_le_of_lt (Nat.lt_add_right k hp0)] at q ⊢; exact q) | exact q
 by_cases c1 : v1.2.at_ < (v1.2.text.length : Int)
 ·have h := iteT h c1
  obtain ⟨v2, e_v2, h⟩ := ob h
  obtain ⟨e_v2a, e_v2b⟩ := idx_some e_v2
  by_cases c2 : (v2.toNat : Int) = a1
  ·have h := iteT h c2
   have c2b : ((v2.toNat : Int) == a1) = true := beqT c2
   simp only [go_sem, e_v1c, c1, e_v2a, e_v2b, c2b, hp0, fun k => Nat.lt_add_right k hp0, Nat.not_le_of_lt hp0, fun k => Nat.not_le_of_lt (Nat.lt_add_right k hp0)]
   injection h with h; subst h
   exact Sat.ok hQ
  ·have h := iteF h c2
   have c2b : ((v2.toNat : Int) == a1) = false := beqF c2
   simp only [go_sem, e_v1c, c1, e_v2a, e_v2b, c2b, hp0, fun k => Nat.lt_add_right k hp0, Nat.not_le_of_lt hp0, fun k => Nat.not_le_of_lt (Nat.lt_add_right k hp0)]
   injection h with h; subst h
   exact Sat.ok hQ
 ·have h := iteF h c1
  simp only [go_sem, e_v1c, c1, hp0, fun k => Nat.lt_add_right k hp0, Nat.not_le_of_lt hp0, fun k => Nat.not_le_of_lt (Nat.lt_add_right k hp0)]
  injection h with h; subst h
  exact Sat.ok hQ
def tree_Reader_Take (n : Nat) (a0 : tree_Reader) (a1 : Int) : Option ((Option Unit) × tree_Reader) :=
 (tree_Reader_Is n a0 a1).bind fun v1 =>
 if v1.1 = true then
  some (some (), v1.2)
 else
  some (none, v1.2)
theorem spec90 (n : Nat) (σ : List AObj) (p0 : Nat) (hp0 : p0 < σ.length) (a0 : tree_Reader) (a1 : Int) (r : (Option Unit) × tree_Reader) (h : tree_Reader_Take n a0 a1 = some r) :
 call Try.prog T H (.fn 90) [.ptr p0 0, .p (.lit (.int .u8 a1))] (List.set σ p0 (.cells [.p (.lit (.string (bs a0.text))), .p (iv a0.at_)])) = some (outP (.ifc 114 (.agg [])) (fun (x : Unit) => .p (.tup [])) r.1, (List.set σ p0 (.cells [.p (.lit (.string (bs r.2.text))), .p (iv r.2.at_)]))) := by
 refine Sat.fn fun Q hQ => ?_
 unfold tree_Reader_Take at h
 rw [call90]
 conv => arg 1; arg 7; unfold S02.c90 Try.f90; simp only [Option.getD_some]
 obtain ⟨v1, e_v1, h⟩ := ob h
 have e_v1c : call Try.prog T H (.fn 89) [.ptr p0 0, .p (.lit (.int .u8 a1))] (List.set σ p0 (.cells [.p (.lit (.string (bs a0.text))), .p (iv a0.at_)])) = some (.ret (.p (bv v1.1)), (List.set σ p0 (.cells [.p (.lit (.string (bs v1.2.text))), .p (iv v1.2.at_)]))) := by have q := spec89 n (List.set σ p0 (.cells [.p (.lit (.string (bs a0.text))), .p (iv a0.at_)])) p0 (by simp only [List.length_append, List.length_set, List.length_cons, List.length_nil]; omega) a0 a1 v1 e_v1; first | (simp only [go_sem, hp0, fun k => Nat.lt_add_right k hp0, Nat.not_le_of_lt hp0, fun k => Nat.not_le_of_lt (Nat.lt_add_right k hp0)] at q ⊢; exact q) | exact q
 by_cases c1 : v1.1 = true
 ·have h := iteT h c1
  simp only [go_sem, e_v1c, c1, hp0, fun k => Nat.lt_add_right k hp0, Nat.not_le_of_lt hp0, fun k => Nat.not_le_of_lt (Nat.lt_add_right k hp0)]
  injection h with h; subst h
  exact Sat.ok hQ
 ·have h := iteF h c1
  have c1 := eq_false_of_ne_true c1
  simp only [go_sem, e_v1c, c1, hp0, fun k => Nat.lt_add_right k hp0, Nat.not_le_of_lt hp0, fun k => Nat.not_le_of_lt (Nat.lt_add_right k hp0)]
  injection h with h; subst h
  exact Sat.ok hQ
def hedge_list : Nat → tree_Reader → (List Str) → Option ((Option (List Node)) × tree_Reader)
 | 0, _, _ => none
 | n + 1, a0, a1 =>
  (tree_Reader_Next n a0).bind fun v1 =>
  whileL n (([] : List Node), v1.1, v1.2.text, v1.2.at_) (fun k1 (s1 : (List Node) × Int × Str × Int) n1 =>
   if s1.2.1 = 0 then
    k1 (s1.1, s1.2.1, s1.2.2.1, s1.2.2.2)
   else
    if s1.2.1 = 41 then
     k1 (s1.1, s1.2.1, s1.2.2.1, s1.2.2.2)
    else
     (tree_Reader_Name n (tree_Reader.mk s1.2.2.1 s1.2.2.2)).bind fun v2 =>
     pn v2.1 (
      some (none, v2.2)) fun w1 =>
     (tree_Known a1 w1).bind fun v3 =>
     pn v3 (
      some (none, v2.2)) fun w2 =>
     (tree_Reader_Is n v2.2 40).bind fun v4 =>
     if v4.1 = true then
      (hedge_list n v4.2 a1).bind fun v5 =>
      pn v5.1 (
       some (none, v5.2)) fun w3 =>
      (tree_Reader_Take n v5.2 41).bind fun v6 =>
      pn v6.1 (
       some (none, v6.2)) fun w4 =>
      (app 32 s1.1 [(Node.mk w2 w3)]).bind fun v7 =>
      (tree_Reader_Next n v6.2).bind fun v8 =>
      n1 (v7, v8.1, v8.2.text, v8.2.at_)
     else
      (app 32 s1.1 [(Node.mk w2 ([] : List Node))]).bind fun v9 =>
      (tree_Reader_Next n v4.2).bind fun v10 =>
      n1 (v9, v10.1, v10.2.text, v10.2.at_)) fun s1 =>
  some (some s1.1, (tree_Reader.mk s1.2.2.1 s1.2.2.2))
theorem spec76 : ∀ (n : Nat), (∀ (σ : List AObj) (p0 : Nat) (hp0 : p0 < σ.length) (a0 : tree_Reader) (a1 : List Str) (r : (Option (List Node)) × tree_Reader), hedge_list n a0 a1 = some r →
 call Try.prog T H (.fn 76) [.ptr p0 0, .p (.sl none 1 (List.map rowS a1))] (List.set σ p0 (.cells [.p (.lit (.string (bs a0.text))), .p (iv a0.at_)])) = some (outP (.ifc 114 (.agg [])) (fun (x : (List Node)) => .p (.sl none 2 (List.map row_Node x))) r.1, (List.set σ p0 (.cells [.p (.lit (.string (bs r.2.text))), .p (iv r.2.at_)])))) := by
 intro n
 induction n with
 | zero => intro σ p0 hp0 a0 a1 r h; cases h
 | succ n ih =>
  intro σ p0 hp0 a0 a1 r h
  refine Sat.fn fun Q hQ => ?_
  rw [hedge_list] at h
  rw [call76]
  conv => arg 1; arg 7; unfold S02.c76 Try.f76; simp only [Option.getD_some]
  obtain ⟨v1, e_v1, h⟩ := ob h
  have e_v1c : call Try.prog T H (.fn 86) [.ptr p0 0] (List.set σ p0 (.cells [.p (.lit (.string (bs a0.text))), .p (iv a0.at_)])) = some (.ret (.p (.lit (.int .u8 v1.1))), (List.set σ p0 (.cells [.p (.lit (.string (bs v1.2.text))), .p (iv v1.2.at_)]))) := by have q := spec86 n (List.set σ p0 (.cells [.p (.lit (.string (bs a0.text))), .p (iv a0.at_)])) p0 (by simp only [List.length_append, List.length_set, List.length_cons, List.length_nil]; omega) a0 v1 e_v1; first | (simp only [go_sem, hp0, fun k => Nat.lt_add_right k hp0, Nat.not_le_of_lt hp0, fun k => Nat.not_le_of_lt (Nat.lt_add_right k hp0)] at q ⊢; exact q) | exact q
  simp only [go_sem, e_v1c, hp0, fun k => Nat.lt_add_right k hp0, Nat.not_le_of_lt hp0, fun k => Nat.not_le_of_lt (Nat.lt_add_right k hp0)]
  refine run_whileL (c := L76_0) (live := [0, 1, 5, 6]) (by simp only [go_sem]) (M := fun (s1 : (List Node) × Int × Str × Int) => [(0, .ptr p0 0), (1, .p (.sl none 1 (List.map rowS a1))), (5, .own 2 (List.map row_Node s1.1)), (6, .p (.lit (.int .u8 s1.2.1)))]) (Z := fun (s1 : (List Node) × Int × Str × Int) => (List.set σ p0 (.cells [.p (.lit (.string (bs s1.2.2.1))), .p (iv s1.2.2.2)]))) (N := fun (s1 : (List Node) × Int × Str × Int) => ⟨[(5, .own 2 (List.map row_Node s1.1))], (List.set σ p0 (.cells [.p (.lit (.string (bs s1.2.2.1))), .p (iv s1.2.2.2)])), [], none, false⟩) h rfl rfl (fun _ => rfl) ?_ ?_
  ·intro s1 h
   try dsimp only at h ⊢
   simp only [go_sem, hp0, fun k => Nat.lt_add_right k hp0, Nat.not_le_of_lt hp0, fun k => Nat.not_le_of_lt (Nat.lt_add_right k hp0)]
   injection h with h; subst h
   exact Sat.ok hQ
  ·intro K1 k1 s1 n1 hR1 hE1 hb1 ih1 h
   try dsimp only at h ⊢
   conv => arg 1; arg 7; unfold L76_0 loopAt S02.c76 Try.f76; simp only [loopIn, Option.getD_some, if_true]
   by_cases c1 : s1.2.1 = 0
   ·have h := iteT h c1
    have c1b : (s1.2.1 != 0) = false := bneF c1
    simp only [go_sem, c1b, hR1, hE1, hp0, fun k => Nat.lt_add_right k hp0, Nat.not_le_of_lt hp0, fun k => Nat.not_le_of_lt (Nat.lt_add_right k hp0)]
    exact hb1 (s1.1, s1.2.1, s1.2.2.1, s1.2.2.2) h
   ·have h := iteF h c1
    have c1b : (s1.2.1 != 0) = true := bneT c1
    by_cases c2 : s1.2.1 = 41
    ·have h := iteT h c2
     have c2b : (s1.2.1 != 41) = false := bneF c2
     simp only [go_sem, c1b, c2b, hR1, hE1, hp0, fun k => Nat.lt_add_right k hp0, Nat.not_le_of_lt hp0, fun k => Nat.not_le_of_lt (Nat.lt_add_right k hp0)]
     exact hb1 (s1.1, s1.2.1, s1.2.2.1, s1.2.2.2) h
    ·have h := iteF h c2
     have c2b : (s1.2.1 != 41) = true := bneT c2
     obtain ⟨v2, e_v2, h⟩ := ob h
     have e_v2c : call Try.prog T H (.fn 88) [.ptr p0 0] (List.set σ p0 (.cells [.p (.lit (.string (bs s1.2.2.1))), .p (iv s1.2.2.2)])) = some (outP (.ifc 114 (.agg [])) (fun (x : Str) => .p (.lit (.string (bs x)))) v2.1, (List.set σ p0 (.cells [.p (.lit (.string (bs v2.2.text))), .p (iv v2.2.at_)]))) := by have q := spec88 n (List.set σ p0 (.cells [.p (.lit (.string (bs s1.2.2.1))), .p (iv s1.2.2.2)])) p0 (by simp only [List.length_append, List.length_set, List.length_cons, List.length_nil]; omega) (tree_Reader.mk s1.2.2.1 s1.2.2.2) v2 e_v2; first | (simp only [go_sem, hp0, fun k => Nat.lt_add_right k hp0, Nat.not_le_of_lt hp0, fun k => Nat.not_le_of_lt (Nat.lt_add_right k hp0)] at q ⊢; exact q) | exact q
     rcases pn_cases h with ⟨hw1, h⟩ | ⟨w1, hw1, h⟩
     ·simp only [go_sem, c1b, c2b, e_v2c, hw1, hR1, hE1, hp0, fun k => Nat.lt_add_right k hp0, Nat.not_le_of_lt hp0, fun k => Nat.not_le_of_lt (Nat.lt_add_right k hp0)]
      injection h with h; subst h
      exact Sat.ok hQ
     ·obtain ⟨v3, e_v3, h⟩ := ob h
      have e_v3c := spec87 a1 w1 v3 e_v3
      rcases pn_cases h with ⟨hw2, h⟩ | ⟨w2, hw2, h⟩
      ·simp only [go_sem, c1b, c2b, e_v2c, hw1, e_v3c, hw2, hR1, hE1, hp0, fun k => Nat.lt_add_right k hp0, Nat.not_le_of_lt hp0, fun k => Nat.not_le_of_lt (Nat.lt_add_right k hp0)]
       injection h with h; subst h
       exact Sat.ok hQ
      ·obtain ⟨v4, e_v4, h⟩ := ob h
       have e_v4c : call Try.prog T H (.fn 89) [.ptr p0 0, .p (.lit (.int .u8 40))] ((List.set σ p0 (.cells [.p (.lit (.string (bs v2.2.text))), .p (iv v2.2.at_)])) ++ [.cells [.p (iv w2), .own 2 []]]) = some (.ret (.p (bv v4.1)), ((List.set σ p0 (.cells [.p (.lit (.string (bs v4.2.text))), .p (iv v4.2.at_)])) ++ [.cells [.p (iv w2), .own 2 []]])) := by have q := spec89 n ((List.set σ p0 (.cells [.p (.lit (.string (bs v2.2.text))), .p (iv v2.2.at_)])) ++ [.cells [.p (iv w2), .own 2 []]]) p0 (by simp only [List.length_append, List.length_set, List.length_cons, List.length_nil]; omega) v2.2 40 v4 e_v4; first | (simp only [go_sem, hp0, fun k => Nat.lt_add_right k hp0, Nat.not_le_of_lt hp0, fun k => Nat.not_le_of_lt (Nat.lt_add_right k hp0)] at q ⊢; exact q) | exact q
       by_cases c3 : v4.1 = true
       ·have h := iteT h c3
        obtain ⟨v5, e_v5, h⟩ := ob h
        have e_v5c : call Try.prog T H (.fn 76) [.ptr p0 0, .p (.sl none 1 (List.map rowS a1))] ((List.set σ p0 (.cells [.p (.lit (.string (bs v4.2.text))), .p (iv v4.2.at_)])) ++ [.cells [.p (iv w2), .own 2 []]]) = some (outP (.ifc 114 (.agg [])) (fun (x : (List Node)) => .p (.sl none 2 (List.map row_Node x))) v5.1, ((List.set σ p0 (.cells [.p (.lit (.string (bs v5.2.text))), .p (iv v5.2.at_)])) ++ [.cells [.p (iv w2), .own 2 []]])) := by have q := ih ((List.set σ p0 (.cells [.p (.lit (.string (bs v4.2.text))), .p (iv v4.2.at_)])) ++ [.cells [.p (iv w2), .own 2 []]]) p0 (by simp only [List.length_append, List.length_set, List.length_cons, List.length_nil]; omega) v4.2 a1 v5 e_v5; first | (simp only [go_sem, hp0, fun k => Nat.lt_add_right k hp0, Nat.not_le_of_lt hp0, fun k => Nat.not_le_of_lt (Nat.lt_add_right k hp0)] at q ⊢; exact q) | exact q
        rcases pn_cases h with ⟨hw3, h⟩ | ⟨w3, hw3, h⟩
        ·simp only [go_sem, c1b, c2b, e_v2c, hw1, e_v3c, hw2, e_v4c, c3, e_v5c, hw3, hR1, hE1, hp0, fun k => Nat.lt_add_right k hp0, Nat.not_le_of_lt hp0, fun k => Nat.not_le_of_lt (Nat.lt_add_right k hp0)]
         injection h with h; subst h
         exact Sat.ok hQ
        ·obtain ⟨v6, e_v6, h⟩ := ob h
         have e_v6c : call Try.prog T H (.fn 90) [.ptr p0 0, .p (.lit (.int .u8 41))] ((List.set σ p0 (.cells [.p (.lit (.string (bs v5.2.text))), .p (iv v5.2.at_)])) ++ [.cells [.p (iv w2), .p (.sl none 2 (List.map row_Node w3))]]) = some (outP (.ifc 114 (.agg [])) (fun (x : Unit) => .p (.tup [])) v6.1, ((List.set σ p0 (.cells [.p (.lit (.string (bs v6.2.text))), .p (iv v6.2.at_)])) ++ [.cells [.p (iv w2), .p (.sl none 2 (List.map row_Node w3))]])) := by have q := spec90 n ((List.set σ p0 (.cells [.p (.lit (.string (bs v5.2.text))), .p (iv v5.2.at_)])) ++ [.cells [.p (iv w2), .p (.sl none 2 (List.map row_Node w3))]]) p0 (by simp only [List.length_append, List.length_set, List.length_cons, List.length_nil]; omega) v5.2 41 v6 e_v6; first | (simp only [go_sem, hp0, fun k => Nat.lt_add_right k hp0, Nat.not_le_of_lt hp0, fun k => Nat.not_le_of_lt (Nat.lt_add_right k hp0)] at q ⊢; exact q) | exact q
         rcases pn_cases h with ⟨hw4, h⟩ | ⟨w4, hw4, h⟩
         ·simp only [go_sem, c1b, c2b, e_v2c, hw1, e_v3c, hw2, e_v4c, c3, e_v5c, hw3, e_v6c, hw4, hR1, hE1, hp0, fun k => Nat.lt_add_right k hp0, Nat.not_le_of_lt hp0, fun k => Nat.not_le_of_lt (Nat.lt_add_right k hp0)]
          injection h with h; subst h
          exact Sat.ok hQ
         ·obtain ⟨v7, e_v7, h⟩ := ob h
          have e_v7a : boundOk (s1.1.length + 1) 32 = true := bnd_of (by have := (app_some e_v7).1; simpa using this) (by decide)
          have e_v7b : (List.map row_Node s1.1) ++ [[iv w2, .sl none 2 (List.map row_Node w3)]] = List.map row_Node v7 := by rw [(app_some e_v7).2]; simp [row_Node_eq]
          obtain ⟨v8, e_v8, h⟩ := ob h
          have e_v8c : call Try.prog T H (.fn 86) [.ptr p0 0] ((List.set σ p0 (.cells [.p (.lit (.string (bs v6.2.text))), .p (iv v6.2.at_)])) ++ [.cells [.p (iv w2), .p (.sl none 2 (List.map row_Node w3))]]) = some (.ret (.p (.lit (.int .u8 v8.1))), ((List.set σ p0 (.cells [.p (.lit (.string (bs v8.2.text))), .p (iv v8.2.at_)])) ++ [.cells [.p (iv w2), .p (.sl none 2 (List.map row_Node w3))]])) := by have q := spec86 n ((List.set σ p0 (.cells [.p (.lit (.string (bs v6.2.text))), .p (iv v6.2.at_)])) ++ [.cells [.p (iv w2), .p (.sl none 2 (List.map row_Node w3))]]) p0 (by simp only [List.length_append, List.length_set, List.length_cons, List.length_nil]; omega) v6.2 v8 e_v8; first | (simp only [go_sem, hp0, fun k => Nat.lt_add_right k hp0, Nat.not_le_of_lt hp0, fun k => Nat.not_le_of_lt (Nat.lt_add_right k hp0)] at q ⊢; exact q) | exact q
          simp only [go_sem, c1b, c2b, e_v2c, hw1, e_v3c, hw2, e_v4c, c3, e_v5c, hw3, e_v6c, hw4, e_v7a, e_v7b, e_v8c, hR1, hE1, hp0, fun k => Nat.lt_add_right k hp0, Nat.not_le_of_lt hp0, fun k => Nat.not_le_of_lt (Nat.lt_add_right k hp0)]
          exact ih1 (v7, v8.1, v8.2.text, v8.2.at_) h
       ·have h := iteF h c3
        have c3 := eq_false_of_ne_true c3
        obtain ⟨v9, e_v9, h⟩ := ob h
        have e_v9a : boundOk (s1.1.length + 1) 32 = true := bnd_of (by have := (app_some e_v9).1; simpa using this) (by decide)
        have e_v9b : (List.map row_Node s1.1) ++ [[iv w2, .sl none 2 []]] = List.map row_Node v9 := by rw [(app_some e_v9).2]; simp [row_Node_eq]
        obtain ⟨v10, e_v10, h⟩ := ob h
        have e_v10c : call Try.prog T H (.fn 86) [.ptr p0 0] ((List.set σ p0 (.cells [.p (.lit (.string (bs v4.2.text))), .p (iv v4.2.at_)])) ++ [.cells [.p (iv w2), .own 2 []]]) = some (.ret (.p (.lit (.int .u8 v10.1))), ((List.set σ p0 (.cells [.p (.lit (.string (bs v10.2.text))), .p (iv v10.2.at_)])) ++ [.cells [.p (iv w2), .own 2 []]])) := by have q := spec86 n ((List.set σ p0 (.cells [.p (.lit (.string (bs v4.2.text))), .p (iv v4.2.at_)])) ++ [.cells [.p (iv w2), .own 2 []]]) p0 (by simp only [List.length_append, List.length_set, List.length_cons, List.length_nil]; omega) v4.2 v10 e_v10; first | (simp only [go_sem, hp0, fun k => Nat.lt_add_right k hp0, Nat.not_le_of_lt hp0, fun k => Nat.not_le_of_lt (Nat.lt_add_right k hp0)] at q ⊢; exact q) | exact q
        simp only [go_sem, c1b, c2b, e_v2c, hw1, e_v3c, hw2, e_v4c, c3, e_v9a, e_v9b, e_v10c, hR1, hE1, hp0, fun k => Nat.lt_add_right k hp0, Nat.not_le_of_lt hp0, fun k => Nat.not_le_of_lt (Nat.lt_add_right k hp0)]
        exact ih1 (v9, v10.1, v10.2.text, v10.2.at_) h
def tree_Reader_End (n : Nat) (a0 : tree_Reader) : Option (Bool × tree_Reader) :=
 (tree_Reader_Skip n a0).bind fun v1 =>
 some ((v1.2.at_ == (v1.2.text.length : Int)), v1.2)
theorem spec77 (n : Nat) (σ : List AObj) (p0 : Nat) (hp0 : p0 < σ.length) (a0 : tree_Reader) (r : Bool × tree_Reader) (h : tree_Reader_End n a0 = some r) :
 call Try.prog T H (.fn 77) [.ptr p0 0] (List.set σ p0 (.cells [.p (.lit (.string (bs a0.text))), .p (iv a0.at_)])) = some (.ret (.p (bv r.1)), (List.set σ p0 (.cells [.p (.lit (.string (bs r.2.text))), .p (iv r.2.at_)]))) := by
 refine Sat.fn fun Q hQ => ?_
 unfold tree_Reader_End at h
 rw [call77]
 conv => arg 1; arg 7; unfold S02.c77 Try.f77; simp only [Option.getD_some]
 obtain ⟨v1, e_v1, h⟩ := ob h
 have e_v1c : call Try.prog T H (.fn 91) [.ptr p0 0] (List.set σ p0 (.cells [.p (.lit (.string (bs a0.text))), .p (iv a0.at_)])) = some (.ret (.p (bv v1.1)), (List.set σ p0 (.cells [.p (.lit (.string (bs v1.2.text))), .p (iv v1.2.at_)]))) := by have q := spec91 n (List.set σ p0 (.cells [.p (.lit (.string (bs a0.text))), .p (iv a0.at_)])) p0 (by simp only [List.length_append, List.length_set, List.length_cons, List.length_nil]; omega) a0 v1 e_v1; first | (simp only [go_sem, hp0, fun k => Nat.lt_add_right k hp0, Nat.not_le_of_lt hp0, fun k => Nat.not_le_of_lt (Nat.lt_add_right k hp0)] at q ⊢; exact q) | exact q
 simp only [go_sem, e_v1c, hp0, fun k => Nat.lt_add_right k hp0, Nat.not_le_of_lt hp0, fun k => Nat.not_le_of_lt (Nat.lt_add_right k hp0)]
 injection h with h; subst h
 exact Sat.ok hQ
def hedge_read (n : Nat) (a0 : List Str) (a1 : Str) : Option ((List Node) × Int) :=
 (hedge_list n (tree_Reader.mk a1 0) a0).bind fun v1 =>
 pn v1.1 (
  some (([] : List Node), 4)) fun w1 =>
 (tree_Reader_End n v1.2).bind fun v2 =>
 if v2.1 = true then
  some (w1, 0)
 else
  some (w1, 4)
theorem spec57 (n : Nat) (a0 : List Str) (a1 : Str) (r : (List Node) × Int) (h : hedge_read n a0 a1 = some r) :
 call Try.prog T H (.fn 57) [.p (.sl none 1 (List.map rowS a0)), .p (.lit (.string (bs a1)))] [] = some (.ret (.p (.tup [.sl none 2 (List.map row_Node r.1), iv r.2])), []) := by
 refine Sat.fn fun Q hQ => ?_
 unfold hedge_read at h
 rw [call57]
 conv => arg 1; arg 7; unfold S02.c57 Try.f57; simp only [Option.getD_some, dA]
 simp only [go_sem]
 conv => arg 1; arg 7; unfold S02.c57 Try.f57; simp only [Option.getD_some, dB]
 simp only [go_sem]
 refine Sat.callc ?_
 rw [call75]
 conv => arg 1; arg 7; unfold S02.c75 Try.f75; simp only [Option.getD_some]
 simp only [go_sem]
 refine Sat.ok ?_
 obtain ⟨v1, e_v1, h⟩ := ob h
 have e_v1c : call Try.prog T H (.fn 76) [.ptr 1 0, .p (.sl none 1 (List.map rowS a0))] [.cells [.p (iv 0)], .cells [.p (.lit (.string (bs a1))), .p (iv 0)]] = some (outP (.ifc 114 (.agg [])) (fun (x : (List Node)) => .p (.sl none 2 (List.map row_Node x))) v1.1, [.cells [.p (iv 0)], .cells [.p (.lit (.string (bs v1.2.text))), .p (iv v1.2.at_)]]) := by have q := spec76 n [.cells [.p (iv 0)], .cells [.p (.lit (.string (bs a1))), .p (iv 0)]] 1 (by simp only [List.length_append, List.length_set, List.length_cons, List.length_nil]; omega) (tree_Reader.mk a1 0) a0 v1 e_v1; first | (simp only [go_sem] at q ⊢; exact q) | exact q
 rcases pn_cases h with ⟨hw1, h⟩ | ⟨w1, hw1, h⟩
 ·simp only [go_sem, e_v1c, hw1]
  injection h with h; subst h
  exact Sat.ok hQ
 ·obtain ⟨v2, e_v2, h⟩ := ob h
  have e_v2c : call Try.prog T H (.fn 77) [.ptr 1 0] [.cells [.p (iv 0)], .cells [.p (.lit (.string (bs v1.2.text))), .p (iv v1.2.at_)]] = some (.ret (.p (bv v2.1)), [.cells [.p (iv 0)], .cells [.p (.lit (.string (bs v2.2.text))), .p (iv v2.2.at_)]]) := by have q := spec77 n [.cells [.p (iv 0)], .cells [.p (.lit (.string (bs v1.2.text))), .p (iv v1.2.at_)]] 1 (by simp only [List.length_append, List.length_set, List.length_cons, List.length_nil]; omega) v1.2 v2 e_v2; first | (simp only [go_sem] at q ⊢; exact q) | exact q
  by_cases c1 : v2.1 = true
  ·have h := iteT h c1
   simp only [go_sem, e_v1c, hw1, e_v2c, c1]
   injection h with h; subst h
   exact Sat.ok hQ
  ·have h := iteF h c1
   have c1 := eq_false_of_ne_true c1
   simp only [go_sem, e_v1c, hw1, e_v2c, c1]
   injection h with h; subst h
   exact Sat.ok hQ
def hedge_Parse (n : Nat) (a0 : Int) (a1 : List Str) (a2 : Str) : Option ((List Node) × Int) :=
 (hedge_labels a0).bind fun v1 =>
 if v1 = true then
  (tree_Names a1 a0).bind fun v2 =>
  if v2 = true then
   if 16384 < (a2.length : Int) then
    some (([] : List Node), 3)
   else
    (hedge_read n a1 a2).bind fun v3 =>
    if v3.2 = 0 then
     (hedge_Size n v3.1).bind fun v4 =>
     if 300 < v4 then
      some (([] : List Node), 3)
     else
      some (v3.1, 0)
    else
     some (([] : List Node), v3.2)
  else
   some (([] : List Node), 4)
 else
  some (([] : List Node), 6)
theorem spec33 (n : Nat) (a0 : Int) (a1 : List Str) (a2 : Str) (r : (List Node) × Int) (h : hedge_Parse n a0 a1 a2 = some r) :
 call Try.prog T H (.fn 33) [.p (iv a0), .p (.sl none 1 (List.map rowS a1)), .p (.lit (.string (bs a2)))] [] = some (.ret (.p (.tup [.sl none 2 (List.map row_Node r.1), iv r.2])), []) := by
 refine Sat.fn fun Q hQ => ?_
 unfold hedge_Parse at h
 rw [call33]
 conv => arg 1; arg 7; unfold S02.c33 Try.f33; simp only [Option.getD_some]
 obtain ⟨v1, e_v1, h⟩ := ob h
 have e_v1c := spec47 a0 v1 e_v1
 by_cases c1 : v1 = true
 ·have h := iteT h c1
  obtain ⟨v2, e_v2, h⟩ := ob h
  have e_v2c := spec53 a1 a0 v2 e_v2
  by_cases c2 : v2 = true
  ·have h := iteT h c2
   by_cases c3 : 16384 < (a2.length : Int)
   ·have h := iteT h c3
    simp only [go_sem, e_v1c, c1, e_v2c, c2, c3]
    injection h with h; subst h
    exact Sat.ok hQ
   ·have h := iteF h c3
    obtain ⟨v3, e_v3, h⟩ := ob h
    have e_v3c := spec57 n a1 a2 v3 e_v3
    by_cases c4 : v3.2 = 0
    ·have h := iteT h c4
     have c4b : (v3.2 != 0) = false := bneF c4
     obtain ⟨v4, e_v4, h⟩ := ob h
     have e_v4c := spec28 n v3.1 v4 e_v4
     by_cases c5 : 300 < v4
     ·have h := iteT h c5
      simp only [go_sem, e_v1c, c1, e_v2c, c2, c3, e_v3c, c4b, e_v4c, c5]
      injection h with h; subst h
      exact Sat.ok hQ
     ·have h := iteF h c5
      simp only [go_sem, e_v1c, c1, e_v2c, c2, c3, e_v3c, c4b, e_v4c, c5]
      injection h with h; subst h
      exact Sat.ok hQ
    ·have h := iteF h c4
     have c4b : (v3.2 != 0) = true := bneT c4
     simp only [go_sem, e_v1c, c1, e_v2c, c2, c3, e_v3c, c4b]
     injection h with h; subst h
     exact Sat.ok hQ
  ·have h := iteF h c2
   have c2 := eq_false_of_ne_true c2
   simp only [go_sem, e_v1c, c1, e_v2c, c2]
   injection h with h; subst h
   exact Sat.ok hQ
 ·have h := iteF h c1
  have c1 := eq_false_of_ne_true c1
  simp only [go_sem, e_v1c, c1]
  injection h with h; subst h
  exact Sat.ok hQ
def ref02_reader_hedge : Nat → ref02_reader → Option ((List Node) × ref02_reader)
 | 0, _ => none
 | n + 1, a0 =>
  whileL n (a0.bad, ([] : List Node), a0.s, a0.names) (fun k5 (s5 : Bool × (List Node) × Str × (List Str)) n5 =>
   if s5.1 = true then
    k5 (true, s5.2.1, s5.2.2.1, s5.2.2.2)
   else
    whileL n s5.2.2.1 (fun k6 (s6 : Str) n6 =>
     if s6 = ([] : Str) then
      k6 s6
     else
      (s6[0]?).bind fun v16 =>
      if (v16.toNat : Int) = 32 then
       (slcF s6 1).bind fun v17 =>
       n6 v17
      else
       k6 s6) fun s6 =>
    if s6 = ([] : Str) then
     some (s5.2.1, (ref02_reader.mk s5.2.2.2 s6 false))
    else
     (s6[0]?).bind fun v1 =>
     if (v1.toNat : Int) = 41 then
      some (s5.2.1, (ref02_reader.mk s5.2.2.2 s6 false))
     else
      (ref01_Word n s6).bind fun v2 =>
      (slcT s6 v2).bind fun v3 =>
      (ref01_Place s5.2.2.2 v3).bind fun v4 =>
      if v4 < 0 then
       some (([] : List Node), (ref02_reader.mk s5.2.2.2 s6 true))
      else
       (slcF s6 v2).bind fun v5 =>
       whileL n v5 (fun k7 (s7 : Str) n7 =>
        if s7 = ([] : Str) then
         k7 s7
        else
         (s7[0]?).bind fun v14 =>
         if (v14.toNat : Int) = 32 then
          (slcF s7 1).bind fun v15 =>
          n7 v15
         else
          k7 s7) fun s7 =>
       if s7 = ([] : Str) then
        (app 32 s5.2.1 [(Node.mk v4 ([] : List Node))]).bind fun v6 =>
        n5 (false, v6, v5, s5.2.2.2)
       else
        (s7[0]?).bind fun v7 =>
        if (v7.toNat : Int) = 40 then
         (slcF s7 1).bind fun v8 =>
         (ref02_reader_hedge n (ref02_reader.mk s5.2.2.2 v8 false)).bind fun v9 =>
         if v9.2.bad = true then
          some (([] : List Node), (ref02_reader.mk v9.2.names v9.2.s true))
         else
          if v9.2.s = ([] : Str) then
           some (([] : List Node), (ref02_reader.mk v9.2.names v9.2.s true))
          else
           (v9.2.s[0]?).bind fun v10 =>
           if (v10.toNat : Int) = 41 then
            (slcF v9.2.s 1).bind fun v11 =>
            (app 32 s5.2.1 [(Node.mk v4 v9.1)]).bind fun v12 =>
            n5 (false, v12, v11, v9.2.names)
           else
            some (([] : List Node), (ref02_reader.mk v9.2.names v9.2.s true))
        else
         (app 32 s5.2.1 [(Node.mk v4 ([] : List Node))]).bind fun v13 =>
         n5 (false, v13, v5, s5.2.2.2)) fun s5 =>
  some (([] : List Node), (ref02_reader.mk s5.2.2.2 s5.2.2.1 s5.1))
theorem spec58 : ∀ (n : Nat), (∀ (σ : List AObj) (p0 : Nat) (hp0 : p0 < σ.length) (a0 : ref02_reader) (r : (List Node) × ref02_reader), ref02_reader_hedge n a0 = some r →
 call Try.prog T H (.fn 58) [.ptr p0 0] (List.set σ p0 (.cells [.p (.sl none 1 (List.map rowS a0.names)), .p (.lit (.string (bs a0.s))), .p (bv a0.bad)])) = some (.ret (.p (.sl none 2 (List.map row_Node r.1))), (List.set σ p0 (.cells [.p (.sl none 1 (List.map rowS r.2.names)), .p (.lit (.string (bs r.2.s))), .p (bv r.2.bad)])))) := by
 intro n
 induction n with
 | zero => intro σ p0 hp0 a0 r h; cases h
 | succ n ih =>
  intro σ p0 hp0 a0 r h
  refine Sat.fn fun Q hQ => ?_
  rw [ref02_reader_hedge] at h
  rw [call58]
  conv => arg 1; arg 7; unfold S02.c58 Try.f58; simp only [Option.getD_some]
  simp only [go_sem, hp0, fun k => Nat.lt_add_right k hp0, Nat.not_le_of_lt hp0, fun k => Nat.not_le_of_lt (Nat.lt_add_right k hp0)]
  refine run_whileL (c := L58_0) (live := [0, 3]) (by simp only [go_sem]) (M := fun (s5 : Bool × (List Node) × Str × (List Str)) => [(0, .ptr p0 0), (3, .own 2 (List.map row_Node s5.2.1))]) (Z := fun (s5 : Bool × (List Node) × Str × (List Str)) => (List.set σ p0 (.cells [.p (.sl none 1 (List.map rowS s5.2.2.2)), .p (.lit (.string (bs s5.2.2.1))), .p (bv s5.1)]))) (N := fun (s5 : Bool × (List Node) × Str × (List Str)) => ⟨[], (List.set σ p0 (.cells [.p (.sl none 1 (List.map rowS s5.2.2.2)), .p (.lit (.string (bs s5.2.2.1))), .p (bv s5.1)])), [], none, false⟩) h rfl rfl (fun _ => rfl) ?_ ?_
  ·intro s5 h
   try dsimp only at h ⊢
   simp only [go_sem, hp0, fun k => Nat.lt_add_right k hp0, Nat.not_le_of_lt hp0, fun k => Nat.not_le_of_lt (Nat.lt_add_right k hp0)]
   injection h with h; subst h
   exact Sat.ok hQ
  ·intro K5 k5 s5 n5 hR5 hE5 hb5 ih5 h
   try dsimp only at h ⊢
   conv => arg 1; arg 7; unfold L58_0 loopAt S02.c58 Try.f58; simp only [loopIn, Option.getD_some, if_true]
   by_cases c1 : s5.1 = true
   ·have h := iteT h c1
    simp only [go_sem, c1, hR5, hE5, hp0, fun k => Nat.lt_add_right k hp0, Nat.not_le_of_lt hp0, fun k => Nat.not_le_of_lt (Nat.lt_add_right k hp0)]
    exact hb5 (true, s5.2.1, s5.2.2.1, s5.2.2.2) h
   ·have h := iteF h c1
    have c1 := eq_false_of_ne_true c1
    simp only [go_sem, c1, hR5, hE5, hp0, fun k => Nat.lt_add_right k hp0, Nat.not_le_of_lt hp0, fun k => Nat.not_le_of_lt (Nat.lt_add_right k hp0)]
    refine run_whileL (c := L58_2) (live := [0, 3]) (by simp only [go_sem]) (M := fun (s6 : Str) => [(0, .ptr p0 0), (3, .own 2 (List.map row_Node s5.2.1))]) (Z := fun (s6 : Str) => (List.set σ p0 (.cells [.p (.sl none 1 (List.map rowS s5.2.2.2)), .p (.lit (.string (bs s6))), .p (bv false)]))) (N := fun (s6 : Str) => ⟨[(0, .ptr p0 0), (3, .own 2 (List.map row_Node s5.2.1))], (List.set σ p0 (.cells [.p (.sl none 1 (List.map rowS s5.2.2.2)), .p (.lit (.string (bs s6))), .p (bv false)])), [], none, false⟩) h rfl rfl (fun _ => rfl) ?_ ?_
    ·intro s6 h
     try dsimp only at h ⊢
     by_cases c2 : s6 = ([] : Str)
     ·have h := iteT h c2
      have c2b : (s6 == ([] : Str)) = true := beqT c2
      simp only [go_sem, c2b, hR5, hE5, hp0, fun k => Nat.lt_add_right k hp0, Nat.not_le_of_lt hp0, fun k => Nat.not_le_of_lt (Nat.lt_add_right k hp0)]
      injection h with h; subst h
      exact Sat.ok hQ
     ·have h := iteF h c2
      have c2b : (s6 == ([] : Str)) = false := beqF c2
      obtain ⟨v1, e_v1, h⟩ := ob h
      by_cases c3 : (v1.toNat : Int) = 41
      ·have h := iteT h c3
       have c3b : ((v1.toNat : Int) == 41) = true := beqT c3
       simp only [go_sem, c2b, e_v1, c3b, hR5, hE5, hp0, fun k => Nat.lt_add_right k hp0, Nat.not_le_of_lt hp0, fun k => Nat.not_le_of_lt (Nat.lt_add_right k hp0)]
       injection h with h; subst h
       exact Sat.ok hQ
      ·have h := iteF h c3
       have c3b : ((v1.toNat : Int) == 41) = false := beqF c3
       obtain ⟨v2, e_v2, h⟩ := ob h
       have e_v2c := spec78 n s6 v2 e_v2
       obtain ⟨v3, e_v3, h⟩ := ob h
       obtain ⟨e_v31, e_v32, e_v33, e_v34⟩ := slcT_some e_v3
       obtain ⟨v4, e_v4, h⟩ := ob h
       have e_v4c := spec73 s5.2.2.2 v3 v4 e_v4
       by_cases c4 : v4 < 0
       ·have h := iteT h c4
        simp only [go_sem, c2b, e_v1, c3b, e_v2c, e_v31, e_v33, ← e_v34, e_v4c, c4, hR5, hE5, hp0, fun k => Nat.lt_add_right k hp0, Nat.not_le_of_lt hp0, fun k => Nat.not_le_of_lt (Nat.lt_add_right k hp0)]
        injection h with h; subst h
        exact Sat.ok hQ
       ·have h := iteF h c4
        obtain ⟨v5, e_v5, h⟩ := ob h
        obtain ⟨e_v51, e_v52, e_v53, e_v54⟩ := slcF_some e_v5
        simp only [go_sem, c2b, e_v1, c3b, e_v2c, e_v31, e_v33, ← e_v34, e_v4c, c4, e_v51, e_v52, ← e_v54, hR5, hE5, hp0, fun k => Nat.lt_add_right k hp0, Nat.not_le_of_lt hp0, fun k => Nat.not_le_of_lt (Nat.lt_add_right k hp0)]
        refine run_whileL (c := L58_4) (live := [0, 3, 5, 6]) (by simp only [go_sem]) (M := fun (s7 : Str) => [(0, .ptr p0 0), (3, .own 2 (List.map row_Node s5.2.1)), (5, .ptr σ.length 0), (6, .p (.lit (.string (bs s7))))]) (Z := fun (s7 : Str) => ((List.set σ p0 (.cells [.p (.sl none 1 (List.map rowS s5.2.2.2)), .p (.lit (.string (bs v5))), .p (bv false)])) ++ [.cells [.p (iv v4), .own 2 []]])) (N := fun (s7 : Str) => ⟨[(0, .ptr p0 0), (3, .own 2 (List.map row_Node s5.2.1)), (5, .ptr σ.length 0), (6, .p (.lit (.string (bs s7))))], ((List.set σ p0 (.cells [.p (.sl none 1 (List.map rowS s5.2.2.2)), .p (.lit (.string (bs v5))), .p (bv false)])) ++ [.cells [.p (iv v4), .own 2 []]]), [], none, false⟩) h rfl rfl (fun _ => rfl) ?_ ?_
        ·intro s7 h
         try dsimp only at h ⊢
         by_cases c5 : s7 = ([] : Str)
         ·have h := iteT h c5
          have c5b : (s7 == ([] : Str)) = true := beqT c5
          obtain ⟨v6, e_v6, h⟩ := ob h
          have e_v6a : boundOk (s5.2.1.length + 1) 32 = true := bnd_of (by have := (app_some e_v6).1; simpa using this) (by decide)
          have e_v6b : (List.map row_Node s5.2.1) ++ [[iv v4, .sl none 2 []]] = List.map row_Node v6 := by rw [(app_some e_v6).2]; simp [row_Node_eq]
          simp only [go_sem, c5b, e_v6a, e_v6b, hR5, hE5, hp0, fun k => Nat.lt_add_right k hp0, Nat.not_le_of_lt hp0, fun k => Nat.not_le_of_lt (Nat.lt_add_right k hp0)]
          exact ih5 (false, v6, v5, s5.2.2.2) h
         ·have h := iteF h c5
          have c5b : (s7 == ([] : Str)) = false := beqF c5
          obtain ⟨v7, e_v7, h⟩ := ob h
          by_cases c6 : (v7.toNat : Int) = 40
          ·have h := iteT h c6
           have c6b : ((v7.toNat : Int) == 40) = true := beqT c6
           obtain ⟨v8, e_v8, h⟩ := ob h
           obtain ⟨e_v81, e_v82, e_v83, e_v84⟩ := slcF_some e_v8
           simp only [Int.reduceToNat] at e_v82
           simp only [Int.reduceToNat] at e_v84
           obtain ⟨v9, e_v9, h⟩ := ob h
           have e_v9c : call Try.prog T H (.fn 58) [.ptr p0 0] ((List.set σ p0 (.cells [.p (.sl none 1 (List.map rowS s5.2.2.2)), .p (.lit (.string (bs v8))), .p (bv false)])) ++ [.cells [.p (iv v4), .own 2 []]]) = some (.ret (.p (.sl none 2 (List.map row_Node v9.1))), ((List.set σ p0 (.cells [.p (.sl none 1 (List.map rowS v9.2.names)), .p (.lit (.string (bs v9.2.s))), .p (bv v9.2.bad)])) ++ [.cells [.p (iv v4), .own 2 []]])) := by have q := ih ((List.set σ p0 (.cells [.p (.sl none 1 (List.map rowS s5.2.2.2)), .p (.lit (.string (bs v8))), .p (bv false)])) ++ [.cells [.p (iv v4), .own 2 []]]) p0 (by simp only [List.length_append, List.length_set, List.length_cons, List.length_nil]; omega) (ref02_reader.mk s5.2.2.2 v8 false) v9 e_v9; first | (simp only [go_sem, hp0, fun k => Nat.lt_add_right k hp0, Nat.not_le_of_lt hp0, fun k => Nat.not_le_of_lt (Nat.lt_add_right k hp0)] at q ⊢; exact q) | exact q
           by_cases c7 : v9.2.bad = true
           ·have h := iteT h c7
            simp only [go_sem, c5b, e_v7, c6b, e_v82, ← e_v84, e_v9c, c7, hR5, hE5, hp0, fun k => Nat.lt_add_right k hp0, Nat.not_le_of_lt hp0, fun k => Nat.not_le_of_lt (Nat.lt_add_right k hp0)]
            injection h with h; subst h
            exact Sat.ok hQ
           ·have h := iteF h c7
            have c7 := eq_false_of_ne_true c7
            by_cases c8 : v9.2.s = ([] : Str)
            ·have h := iteT h c8
             have c8b : (v9.2.s == ([] : Str)) = true := beqT c8
             simp only [go_sem, c5b, e_v7, c6b, e_v82, ← e_v84, e_v9c, c7, c8b, hR5, hE5, hp0, fun k => Nat.lt_add_right k hp0, Nat.not_le_of_lt hp0, fun k => Nat.not_le_of_lt (Nat.lt_add_right k hp0)]
             injection h with h; subst h
             exact Sat.ok hQ
            ·have h := iteF h c8
             have c8b : (v9.2.s == ([] : Str)) = false := beqF c8
             obtain ⟨v10, e_v10, h⟩ := ob h
             by_cases c9 : (v10.toNat : Int) = 41
             ·have h := iteT h c9
              have c9b : ((v10.toNat : Int) != 41) = false := bneF c9
              obtain ⟨v11, e_v11, h⟩ := ob h
              obtain ⟨e_v111, e_v112, e_v113, e_v114⟩ := slcF_some e_v11
              simp only [Int.reduceToNat] at e_v112
              simp only [Int.reduceToNat] at e_v114
              obtain ⟨v12, e_v12, h⟩ := ob h
              have e_v12a : boundOk (s5.2.1.length + 1) 32 = true := bnd_of (by have := (app_some e_v12).1; simpa using this) (by decide)
              have e_v12b : (List.map row_Node s5.2.1) ++ [[iv v4, .sl none 2 (List.map row_Node v9.1)]] = List.map row_Node v12 := by rw [(app_some e_v12).2]; simp [row_Node_eq]
              simp only [go_sem, c5b, e_v7, c6b, e_v82, ← e_v84, e_v9c, c7, c8b, e_v10, c9b, e_v112, ← e_v114, e_v12a, e_v12b, hR5, hE5, hp0, fun k => Nat.lt_add_right k hp0, Nat.not_le_of_lt hp0, fun k => Nat.not_le_of_lt (Nat.lt_add_right k hp0)]
              exact ih5 (false, v12, v11, v9.2.names) h
             ·have h := iteF h c9
              have c9b : ((v10.toNat : Int) != 41) = true := bneT c9
              simp only [go_sem, c5b, e_v7, c6b, e_v82, ← e_v84, e_v9c, c7, c8b, e_v10, c9b, hR5, hE5, hp0, fun k => Nat.lt_add_right k hp0, Nat.not_le_of_lt hp0, fun k => Nat.not_le_of_lt (Nat.lt_add_right k hp0)]
              injection h with h; subst h
              exact Sat.ok hQ
          ·have h := iteF h c6
           have c6b : ((v7.toNat : Int) == 40) = false := beqF c6
           obtain ⟨v13, e_v13, h⟩ := ob h
           have e_v13a : boundOk (s5.2.1.length + 1) 32 = true := bnd_of (by have := (app_some e_v13).1; simpa using this) (by decide)
           have e_v13b : (List.map row_Node s5.2.1) ++ [[iv v4, .sl none 2 []]] = List.map row_Node v13 := by rw [(app_some e_v13).2]; simp [row_Node_eq]
           simp only [go_sem, c5b, e_v7, c6b, e_v13a, e_v13b, hR5, hE5, hp0, fun k => Nat.lt_add_right k hp0, Nat.not_le_of_lt hp0, fun k => Nat.not_le_of_lt (Nat.lt_add_right k hp0)]
           exact ih5 (false, v13, v5, s5.2.2.2) h
        ·intro K7 k7 s7 n7 hR7 hE7 hb7 ih7 h
         try dsimp only at h ⊢
         conv => arg 1; arg 7; unfold L58_4 loopAt S02.c58 Try.f58; simp only [loopIn, Option.getD_some, if_true]
         by_cases c10 : s7 = ([] : Str)
         ·have h := iteT h c10
          have c10b : (s7 == ([] : Str)) = true := beqT c10
          simp only [go_sem, c10b, hR5, hE5, hR7, hE7, hp0, fun k => Nat.lt_add_right k hp0, Nat.not_le_of_lt hp0, fun k => Nat.not_le_of_lt (Nat.lt_add_right k hp0)]
          exact hb7 s7 h
         ·have h := iteF h c10
          have c10b : (s7 == ([] : Str)) = false := beqF c10
          obtain ⟨v14, e_v14, h⟩ := ob h
          by_cases c11 : (v14.toNat : Int) = 32
          ·have h := iteT h c11
           have c11b : ((v14.toNat : Int) == 32) = true := beqT c11
           obtain ⟨v15, e_v15, h⟩ := ob h
           obtain ⟨e_v151, e_v152, e_v153, e_v154⟩ := slcF_some e_v15
           simp only [Int.reduceToNat] at e_v152
           simp only [Int.reduceToNat] at e_v154
           simp only [go_sem, c10b, e_v14, c11b, e_v152, ← e_v154, hR5, hE5, hR7, hE7, hp0, fun k => Nat.lt_add_right k hp0, Nat.not_le_of_lt hp0, fun k => Nat.not_le_of_lt (Nat.lt_add_right k hp0)]
           exact ih7 v15 h
          ·have h := iteF h c11
           have c11b : ((v14.toNat : Int) == 32) = false := beqF c11
           simp only [go_sem, c10b, e_v14, c11b, hR5, hE5, hR7, hE7, hp0, fun k => Nat.lt_add_right k hp0, Nat.not_le_of_lt hp0, fun k => Nat.not_le_of_lt (Nat.lt_add_right k hp0)]
           exact hb7 s7 h
    ·intro K6 k6 s6 n6 hR6 hE6 hb6 ih6 h
     try dsimp only at h ⊢
     conv => arg 1; arg 7; unfold L58_2 loopAt S02.c58 Try.f58; simp only [loopIn, Option.getD_some, if_true]
     by_cases c12 : s6 = ([] : Str)
     ·have h := iteT h c12
      have c12b : (s6 == ([] : Str)) = true := beqT c12
      simp only [go_sem, c12b, hR5, hE5, hR6, hE6, hp0, fun k => Nat.lt_add_right k hp0, Nat.not_le_of_lt hp0, fun k => Nat.not_le_of_lt (Nat.lt_add_right k hp0)]
      exact hb6 s6 h
     ·have h := iteF h c12
      have c12b : (s6 == ([] : Str)) = false := beqF c12
      obtain ⟨v16, e_v16, h⟩ := ob h
      by_cases c13 : (v16.toNat : Int) = 32
      ·have h := iteT h c13
       have c13b : ((v16.toNat : Int) == 32) = true := beqT c13
       obtain ⟨v17, e_v17, h⟩ := ob h
       obtain ⟨e_v171, e_v172, e_v173, e_v174⟩ := slcF_some e_v17
       simp only [Int.reduceToNat] at e_v172
       simp only [Int.reduceToNat] at e_v174
       simp only [go_sem, c12b, e_v16, c13b, e_v172, ← e_v174, hR5, hE5, hR6, hE6, hp0, fun k => Nat.lt_add_right k hp0, Nat.not_le_of_lt hp0, fun k => Nat.not_le_of_lt (Nat.lt_add_right k hp0)]
       exact ih6 v17 h
      ·have h := iteF h c13
       have c13b : ((v16.toNat : Int) == 32) = false := beqF c13
       simp only [go_sem, c12b, e_v16, c13b, hR5, hE5, hR6, hE6, hp0, fun k => Nat.lt_add_right k hp0, Nat.not_le_of_lt hp0, fun k => Nat.not_le_of_lt (Nat.lt_add_right k hp0)]
       exact hb6 s6 h
def ref02_Parse (n : Nat) (a0 : Int) (a1 : List Str) (a2 : Str) : Option ((List Node) × Int) :=
 if a0 < 1 then
  some (([] : List Node), 6)
 else
  if 8 < a0 then
   some (([] : List Node), 6)
  else
   (ref01_Names n a1 a0).bind fun v1 =>
   if v1 = true then
    if 16384 < (a2.length : Int) then
     some (([] : List Node), 3)
    else
     (ref02_reader_hedge n (ref02_reader.mk a1 a2 false)).bind fun v2 =>
     if v2.2.bad = true then
      some (([] : List Node), 4)
     else
      if v2.2.s = ([] : Str) then
       (ref02_Few n v2.1 300).bind fun v3 =>
       if v3 = true then
        some (v2.1, 0)
       else
        some (([] : List Node), 3)
      else
       some (([] : List Node), 4)
   else
    some (([] : List Node), 4)
theorem spec34 (n : Nat) (a0 : Int) (a1 : List Str) (a2 : Str) (r : (List Node) × Int) (h : ref02_Parse n a0 a1 a2 = some r) :
 call Try.prog T H (.fn 34) [.p (iv a0), .p (.sl none 1 (List.map rowS a1)), .p (.lit (.string (bs a2)))] [] = some (.ret (.p (.tup [.sl none 2 (List.map row_Node r.1), iv r.2])), []) := by
 refine Sat.fn fun Q hQ => ?_
 unfold ref02_Parse at h
 rw [call34]
 conv => arg 1; arg 7; unfold S02.c34 Try.f34; simp only [Option.getD_some]
 by_cases c1 : a0 < 1
 ·have h := iteT h c1
  simp only [go_sem, c1]
  injection h with h; subst h
  exact Sat.ok hQ
 ·have h := iteF h c1
  by_cases c2 : 8 < a0
  ·have h := iteT h c2
   simp only [go_sem, c1, c2]
   injection h with h; subst h
   exact Sat.ok hQ
  ·have h := iteF h c2
   obtain ⟨v1, e_v1, h⟩ := ob h
   have e_v1c := spec55 n a1 a0 v1 e_v1
   by_cases c3 : v1 = true
   ·have h := iteT h c3
    by_cases c4 : 16384 < (a2.length : Int)
    ·have h := iteT h c4
     simp only [go_sem, c1, c2, e_v1c, c3, c4]
     injection h with h; subst h
     exact Sat.ok hQ
    ·have h := iteF h c4
     obtain ⟨v2, e_v2, h⟩ := ob h
     have e_v2c : call Try.prog T H (.fn 58) [.ptr 0 0] [.cells [.p (.sl none 1 (List.map rowS a1)), .p (.lit (.string (bs a2))), .p (bv false)]] = some (.ret (.p (.sl none 2 (List.map row_Node v2.1))), [.cells [.p (.sl none 1 (List.map rowS v2.2.names)), .p (.lit (.string (bs v2.2.s))), .p (bv v2.2.bad)]]) := by have q := spec58 n [.cells [.p (.sl none 1 (List.map rowS a1)), .p (.lit (.string (bs a2))), .p (bv false)]] 0 (by simp only [List.length_append, List.length_set, List.length_cons, List.length_nil]; omega) (ref02_reader.mk a1 a2 false) v2 e_v2; first | (simp only [go_sem] at q ⊢; exact q) | exact q
     by_cases c5 : v2.2.bad = true
     ·have h := iteT h c5
      simp only [go_sem, c1, c2, e_v1c, c3, c4, e_v2c, c5]
      injection h with h; subst h
      exact Sat.ok hQ
     ·have h := iteF h c5
      have c5 := eq_false_of_ne_true c5
      by_cases c6 : v2.2.s = ([] : Str)
      ·have h := iteT h c6
       have c6b : (v2.2.s == ([] : Str)) = true := beqT c6
       obtain ⟨v3, e_v3, h⟩ := ob h
       have e_v3c := spec8 n v2.1 300 v3 e_v3
       by_cases c7 : v3 = true
       ·have h := iteT h c7
        simp only [go_sem, c1, c2, e_v1c, c3, c4, e_v2c, c5, c6b, e_v3c, c7]
        injection h with h; subst h
        exact Sat.ok hQ
       ·have h := iteF h c7
        have c7 := eq_false_of_ne_true c7
        simp only [go_sem, c1, c2, e_v1c, c3, c4, e_v2c, c5, c6b, e_v3c, c7]
        injection h with h; subst h
        exact Sat.ok hQ
      ·have h := iteF h c6
       have c6b : (v2.2.s == ([] : Str)) = false := beqF c6
       simp only [go_sem, c1, c2, e_v1c, c3, c4, e_v2c, c5, c6b]
       injection h with h; subst h
       exact Sat.ok hQ
   ·have h := iteF h c3
    have c3 := eq_false_of_ne_true c3
    simp only [go_sem, c1, c2, e_v1c, c3]
    injection h with h; subst h
    exact Sat.ok hQ
end Go.AM.S02

namespace Go.AM.S02
open Go Go.Proofs Go.AM
set_option maxRecDepth 100000
set_option linter.unusedVariables false
theorem Sat.callrange {n : Nat} {K : Ex × S → Option (Out × List AObj)} {Q : Out × List AObj → Prop} {s : S} {d : Option Nat} {A : Option (Out × List AObj)} (h : Sat A (fun y => Sat (rangeK n K (some (endCall s d y.2 y.1))) Q)) :
 Sat (rangeK n K (callR s d A)) Q := by
 obtain ⟨⟨o, σ⟩, rfl, h2⟩ := h
 exact h2
def encL (f : List Node → Option Tree) : List Node → Tree → Option Tree
 | [], s => some s
 | x :: r, s => (f x.Kids).bind fun v => encL f r ⟨x.Label, [v, s]⟩
def hedge_encode : Nat → Int → List Node → Option Tree
 | 0, _, _ => none
 | n + 1, a, h => if h.length < 9223372036854775807 then encL (hedge_encode n a) h.reverse ⟨a, []⟩ else none
def slv (o : Bool) (k : Nat) (rows : List (List PV)) : AV := if o = true then .own k rows else .p (.sl none k rows)
theorem slv_t (k : Nat) (rows : List (List PV)) : slv true k rows = .own k rows := rfl
theorem slv_f (k : Nat) (rows : List (List PV)) : slv false k rows = .p (.sl none k rows) := rfl
theorem loop_ent {P : Program} {T : Tab} {H : Nat → FH} {f base blk : Nat} {c c' : Code} {e0 e1 : Env} {σ : List AObj} {K : Ex × S → Option (Out × List AObj)} {Q : Out × List AObj → Prop} {live : List Nat} (hl : lookupL (H f).heads blk = some live)
 (hc : c = c') (h0 : maskEnv e0 live = maskEnv e1 live) (h : Sat (run P T H f base blk (.loop c') ⟨e1, σ, [], none, false⟩ K) Q) : Sat (run P T H f base blk (.loop c) ⟨e0, σ, [], none, false⟩ K) Q := by
 subst hc
 rw [run_loop_mask (h := hl)] at h ⊢
 dsimp only at h ⊢
 rw [h0]; exact h
theorem wrapM (m : Nat) (h : m + 1 < 9223372036854775808) : IntKind.i64.wrap ((m : Int) - 1) = (m : Int) - 1 := by rw [wrapN] <;> omega
theorem enc_loop {n : Nat} {a0 : Int} {a1 : List Node} {r : Tree} {E : Env} {K : Ex × S → Option (Out × List AObj)} {Q : Out × List AObj → Prop} {c0 c1 : AV} (hl : a1.length < 9223372036854775807)
 (ih : ∀ (a0 : Int) (a1 : List Node) (r : Tree), hedge_encode n a0 a1 = some r →
  call Try.prog T H (.fn 40) [.p (iv a0), .p (.sl none 2 (List.map row_Node a1))] [] = some (.ret (.p (.agg [iv r.Sym, .sl none 2 (List.map row_Tree r.Kids)])), []))
 (hE2 : get E 2 = .ptr 0 0) (hE5 : get E 5 = .ptr 2 0)
 (hK : ∀ (o : Bool) e, Sat (K (.exit 0, ⟨e, [.cells [.p (iv a0)], .cells [c0, c1], .cells [.p (iv r.Sym), slv o 2 (List.map row_Tree r.Kids)], .cells [.p (.sl none 2 (List.map row_Node a1))], .loop 0 none 24 40 E [12, 13] A40_0 B40_0], [], none, false⟩)) Q) :
 ∀ (m : Nat) (s : Tree) (o : Bool), m ≤ a1.length → encL (hedge_encode n a0) (a1.take m).reverse s = some r →
  Sat (run Try.prog T H 79 5 0 (.loop L79_0) ⟨[(0, .yld 4), (1, .ptr 3 0), (3, .p (iv ((m : Int) - 1)))], [.cells [.p (iv a0)], .cells [c0, c1], .cells [.p (iv s.Sym), slv o 2 (List.map row_Tree s.Kids)], .cells [.p (.sl none 2 (List.map row_Node a1))], .loop 0 none 24 40 E [12, 13] A40_0 B40_0], [], none, false⟩ K) Q := by
 intro m
 induction m with
 | zero =>
  intro s o hm h
  rw [List.take_zero, List.reverse_nil, encL] at h
  injection h with h; subst h
  rw [run_loop_mask (live := [0, 1, 3]) (h := by simp only [go_sem])]
  conv => arg 1; arg 7; unfold L79_0 loopAt c79 Try.f79; simp only [loopIn, Option.getD_some, if_true]
  have h1 : ¬ ((0 : Int) ≤ ((0 : Nat) : Int) - 1) := by omega
  simp only [go_sem, h1]
  have := hK o []
  simpa only [go_sem] using this
 | succ m ihm =>
  intro s o hm h
  obtain ⟨x, hx⟩ : ∃ x, a1[m]? = some x := ⟨a1[m]'(by omega), List.getElem?_eq_getElem (by omega)⟩
  have hxm : x ∈ a1 := List.mem_of_getElem? hx
  have ht : (a1.take (m + 1)).reverse = x :: (a1.take m).reverse := by
   rw [List.take_add_one, hx]; simp
  rw [ht, encL] at h
  obtain ⟨v, hv, h⟩ := ob h
  have hc := ih a0 x.Kids v hv
  rw [run_loop_mask (live := [0, 1, 3]) (h := by simp only [go_sem])]
  conv => arg 1; arg 7; unfold L79_0 loopAt c79 Try.f79; simp only [loopIn, Option.getD_some, if_true]
  have e1 : (((m + 1 : Nat) : Int) - 1) = (m : Int) := by omega
  have w1 := wrapM m (by omega)
  simp only [e1]
  simp only [go_sem, hx]
  refine Sat.callc ?_
  rw [call_yld (h := rfl) (hok := yo40_0) (hl := rfl)]
  conv => arg 1; arg 7; unfold A40_0 rangeA c40 Try.f40; simp only [rangeIn, Option.getD_some, if_true]
  simp only [go_sem, asgK, setSt]
  conv => arg 1; arg 7; unfold B40_0 rangeB c40 Try.f40; simp only [rangeIn, Option.getD_some, if_true]
  have hr : List.map row_Tree [v, s] = [[iv v.Sym, .sl none 2 (List.map row_Tree v.Kids)], [iv s.Sym, .sl none 2 (List.map row_Tree s.Kids)]] := by simp only [List.map_cons, List.map_nil, row_Tree_eq]
  have fin := ihm ⟨x.Label, [v, s]⟩ false (by omega) h
  rw [slv_f, hr] at fin
  cases o with
  | true =>
   simp only [go_sem, slv_t, hE2, hE5, hc, yldK, endYield, yldRet, setSt]
   refine Sat.ok ?_
   simp only [go_sem, w1]
   exact fin
  | false =>
   simp only [go_sem, slv_f, hE2, hE5, hc, yldK, endYield, yldRet, setSt]
   refine Sat.ok ?_
   simp only [go_sem, w1]
   exact fin
theorem spec40 : ∀ (n : Nat) (a0 : Int) (a1 : List Node) (r : Tree), hedge_encode n a0 a1 = some r →
 call Try.prog T H (.fn 40) [.p (iv a0), .p (.sl none 2 (List.map row_Node a1))] [] = some (.ret (.p (.agg [iv r.Sym, .sl none 2 (List.map row_Tree r.Kids)])), []) := by
 intro n
 induction n with
 | zero => intro a0 a1 r h; cases h
 | succ n ih =>
  intro a0 a1 r h
  refine Sat.fn fun Q hQ => ?_
  rw [hedge_encode] at h
  by_cases hl : a1.length < 9223372036854775807
  case neg => rw [if_neg hl] at h; cases h
  rw [if_pos hl, ← List.take_length (l := a1)] at h
  rw [call40, cf40]
  conv => arg 1; arg 7; unfold c40 Try.f40; simp only [Option.getD_some, foldR, if_true]
  simp only [go_sem]
  refine Sat.callc ?_
  rw [call62]
  conv => arg 1; arg 7; unfold c62 Try.f62; simp only [Option.getD_some]
  simp only [go_sem]
  refine Sat.ok ?_
  simp only [go_sem]
  refine Sat.callrange ?_
  rw [call79]
  conv => arg 1; arg 7; unfold c79 Try.f79; simp only [Option.getD_some]
  simp only [go_sem]
  have w1 : IntKind.i64.wrap ((a1.length : Int) - 1) = (a1.length : Int) - 1 := by
   by_cases h0 : a1.length = 0
   ·rw [h0]; rfl
   ·rw [wrapN] <;> omega
  refine loop_ent (c' := L79_0) (live := [0, 1, 3]) (e1 := [(0, .yld 4), (1, .ptr 3 0), (3, .p (iv ((a1.length : Int) - 1)))]) (by simp only [go_sem]) ?_ ?_ ?_
  ·unfold L79_0 loopAt c79 Try.f79; simp only [loopIn, Option.getD_some, if_true]
  ·simp only [go_sem, w1]
  ·refine enc_loop (n := n) (r := r) (o := true) (s := ⟨a0, []⟩) hl ih ?_ ?_ ?_ a1.length (Nat.le_refl _) h
   ·simp only [go_sem]
   ·simp only [go_sem]
   ·intro o e
    simp only [go_sem]
    refine Sat.ok ?_
    simp only [go_sem, rangeK_ok, atLoop_some, pendK_none]
    cases o with
    | true =>
     simp only [go_sem, slv_t]
     exact Sat.ok hQ
    | false =>
     simp only [go_sem, slv_f]
     exact Sat.ok hQ
end Go.AM.S02

namespace Go.AM.S02
open Go Go.Proofs Go.AM
set_option maxRecDepth 100000
set_option linter.unusedVariables false
def rI (l : List ref02_Info) : List (List AV) := l.map (rowA row_ref02_Info)
theorem rI_eq (l : List ref02_Info) : List.map (rowA row_ref02_Info) l = rI l := rfl
end Go.AM.S02

namespace Go.AM.S02
open Go Go.Proofs Go.AM
set_option maxRecDepth 100000
set_option linter.unusedVariables false
structure WF (E : Env) (σ : List AObj) : Prop where
 len : 7 ≤ σ.length
 o3 : σ[3]? = some (.loop 0 none 22 10 E [15, 16] A10_0 B10_0)
 o4 : σ[4]? = some (.cells [.yld 3])
 o6 : σ[6]? = some (.cells [.fn 60 [.ptr 5 0, .ptr 4 0, .ptr 6 0]])
def wS (σ : List AObj) (s : Int × List hedge_Info) : List AObj := (σ.set 1 (.cells [.own 4 (s.2.map row_hedge_Info)])).set 5 (.cells [.p (iv s.1)])
theorem wS_len (σ : List AObj) (s : Int × List hedge_Info) : (wS σ s).length = σ.length := by simp [wS]
theorem wS_get (σ : List AObj) (s : Int × List hedge_Info) {i : Nat} (h1 : i ≠ 1) (h5 : i ≠ 5) : (wS σ s)[i]? = σ[i]? := by
 unfold wS; rw [List.getElem?_set_ne (Ne.symm h5), List.getElem?_set_ne (Ne.symm h1)]
theorem wS_1 {σ : List AObj} (s : Int × List hedge_Info) (h : 7 ≤ σ.length) : (wS σ s)[1]? = some (.cells [.own 4 (s.2.map row_hedge_Info)]) := by
 unfold wS; rw [List.getElem?_set_ne (by decide), List.getElem?_set_self (by omega)]
theorem wS_5 {σ : List AObj} (s : Int × List hedge_Info) (h : 7 ≤ σ.length) : (wS σ s)[5]? = some (.cells [.p (iv s.1)]) := by
 unfold wS; rw [List.getElem?_set_self (by rw [List.length_set]; omega)]
theorem wS_set1 (σ : List AObj) (s : Int × List hedge_Info) (o : List hedge_Info) : (wS σ s).set 1 (.cells [.own 4 (o.map row_hedge_Info)]) = wS σ (s.1, o) := by
 unfold wS; rw [List.set_comm _ _ (by decide), List.set_set]
theorem wS_set5 (σ : List AObj) (s : Int × List hedge_Info) (m : Int) : (wS σ s).set 5 (.cells [.p (iv m)]) = wS σ (m, s.2) := by
 unfold wS; rw [List.set_set]
theorem wS_app {σ : List AObj} (s : Int × List hedge_Info) (h : 7 ≤ σ.length) (l : List AObj) : wS σ s ++ l = wS (σ ++ l) s := by
 unfold wS; rw [List.set_append_left _ _ (by omega), List.set_append_left _ _ (by rw [List.length_set]; omega)]
theorem WF.app {E : Env} {σ : List AObj} (h : WF E σ) (l : List AObj) : WF E (σ ++ l) where
 len := by rw [List.length_append]; have := h.len; omega
 o3 := by rw [List.getElem?_append_left (by have := h.len; omega)]; exact h.o3
 o4 := by rw [List.getElem?_append_left (by have := h.len; omega)]; exact h.o4
 o6 := by rw [List.getElem?_append_left (by have := h.len; omega)]; exact h.o6
theorem set_back {α : Type} {l : List α} {i : Nat} {a : α} (h : l[i]? = some a) : l.set i a = l := by
 apply List.ext_getElem?
 intro j
 by_cases e : i = j
 ·subst e
  have := (List.getElem?_eq_some_iff.mp h).1
  rw [List.getElem?_set_self this, h]
 ·rw [List.getElem?_set_ne e]
theorem yield10 {E : Env} (hE : get E 6 = .ptr 1 0) {ρ : List AObj} (hl : 7 ≤ ρ.length) (h3 : ρ[3]? = some (.loop 0 none 22 10 E [15, 16] A10_0 B10_0)) (o o1 : List hedge_Info) (h1 : ρ[1]? = some (.cells [.own 4 (o.map row_hedge_Info)])) (a : Int) (x : hedge_Info) (e1 : app 32 o [x] = some o1) :
 call Try.prog T H (.yld 3) [.p (iv a), .p (.agg [iv x.Label, iv x.Parent, iv x.Index, iv x.Last])] ρ = some (.ret (.p (bv true)), ρ.set 1 (.cells [.own 4 (o1.map row_hedge_Info)])) := by
 refine Sat.fn fun Q hQ => ?_
 have e1a : boundOk (o.length + 1) 32 = true := bnd_of (by have := (app_some e1).1; simpa using this) (by decide)
 have e1b := (app_some e1).2
 have e1r : o.map row_hedge_Info ++ [[iv x.Label, iv x.Parent, iv x.Index, iv x.Last]] = o1.map row_hedge_Info := by rw [e1b]; simp [row_hedge_Info_eq]
 have a1 : ∀ l, (ρ ++ l)[3]? = some (.loop 0 none 22 10 E [15, 16] A10_0 B10_0) := fun l => by rw [List.getElem?_append_left (by omega)]; exact h3
 have a2 : ∀ l y, (ρ ++ l).set 3 y = ρ.set 3 y ++ l := fun l y => List.set_append_left _ _ (by omega)
 have a3 : ∀ l y, (ρ.set 3 y ++ l)[1]? = some (.cells [.own 4 (o.map row_hedge_Info)]) := fun l y => by rw [List.getElem?_append_left (by rw [List.length_set]; omega), List.getElem?_set_ne (by decide)]; exact h1
 have a4 : ∀ l y z, (ρ.set 3 y ++ l).set 1 z = (ρ.set 1 z).set 3 y ++ l := fun l y z => by rw [List.set_append_left _ _ (by rw [List.length_set]; omega), List.set_comm _ _ (by decide)]
 have a5 : ∀ l y z, ((ρ.set 1 z).set 3 y ++ l)[1]? = some z := fun l y z => by rw [List.getElem?_append_left (by simp; omega), List.getElem?_set_ne (by decide), List.getElem?_set_self (by omega)]
 have a6 : ∀ l y z z', ((ρ.set 1 z).set 3 y ++ l).set 1 z' = (ρ.set 1 z').set 3 y ++ l := fun l y z z' => by rw [List.set_append_left _ _ (by simp; omega), List.set_comm _ _ (by decide), List.set_set]
 have a7 : ∀ l y z, ((ρ.set 1 z).set 3 y ++ l)[3]? = some y := fun l y z => by rw [List.getElem?_append_left (by simp; omega), List.getElem?_set_self (by simp; omega)]
 have a8 : ∀ l y z, ((ρ.set 1 z).set 3 y ++ l).set 3 (.loop 0 none 22 10 E [15, 16] A10_0 B10_0) = ρ.set 1 z ++ l := fun l y z => by
  rw [List.set_append_left _ _ (by simp; omega), List.set_set, set_back]
  rw [List.getElem?_set_ne (by decide)]; exact h3
 rw [call_yld (h := h3) (hok := yo10_0) (hl := rfl)]
 conv => arg 1; arg 7; unfold A10_0 rangeA c10 Try.f10; simp only [rangeIn, Option.getD_some, if_true]
 simp only [go_sem, asgK, setSt, a1, a2]
 conv => arg 1; arg 7; unfold B10_0 rangeB c10 Try.f10; simp only [rangeIn, Option.getD_some, if_true]
 simp only [go_sem, hE, a3, a4, a5, a6, a7, a8, e1a, e1r, yldK, endYield, yldRet, setSt]
 exact Sat.ok hQ
def hedge_walk (z : Nat) : Nat → Node → Int → Int → Int × List hedge_Info → Option (Int × List hedge_Info)
 | 0, _, _, _, _ => none
 | n + 1, x, p, i, s =>
  (hedge_Size z [x]).bind fun v1 =>
  (app 32 s.2 [⟨x.Label, p, i, w64 (w64 (s.1 + v1) - 1)⟩]).bind fun o1 =>
  rangeL x.Kids (w64 (s.1 + 1), o1) (fun _ i1 x1 s1 n1 => (hedge_walk z n x1 s.1 (i1 : Int) s1).bind fun v => n1 v) fun s1 => some s1
theorem spec60 {E : Env} (hE : get E 6 = .ptr 1 0) (z : Nat) : ∀ (n : Nat) (σ : List AObj) (w : WF E σ) (x : Node) (p i : Int) (s r : Int × List hedge_Info), hedge_walk z n x p i s = some r →
 call Try.prog T H (.fn 60) [.p (.agg [iv x.Label, .sl none 2 (List.map row_Node x.Kids)]), .p (iv p), .p (iv i), .ptr 5 0, .ptr 4 0, .ptr 6 0] (wS σ s) = some (.ret (.p (bv true)), wS σ r) := by
 intro n
 induction n with
 | zero => intro σ w x p i s r h; cases h
 | succ n ih =>
  intro σ w x p i s r h
  refine Sat.fn fun Q hQ => ?_
  rw [hedge_walk] at h
  obtain ⟨v1, e_v1, h⟩ := ob h
  have e_v1c : call Try.prog T H (.fn 28) [.p (.sl none 2 [[iv x.Label, .sl none 2 (List.map row_Node x.Kids)]])] [] = some (.ret (.p (iv v1)), []) := by
   have q := spec28 z [x] v1 e_v1
   simp only [List.map_cons, List.map_nil, row_Node_eq x] at q
   exact q
  obtain ⟨o1, e1, h⟩ := ob h
  have hl := w.len
  have b5 : ∀ s l, (wS σ s ++ l)[5]? = some (.cells [.p (iv s.1)]) := fun s l => by rw [List.getElem?_append_left (by rw [wS_len]; omega), wS_5 _ hl]
  have b5n : ∀ s, (wS σ s)[5]? = some (.cells [.p (iv s.1)]) := fun s => wS_5 _ hl
  have bs5 : ∀ s l m, (wS σ s ++ l).set 5 (.cells [.p (iv m)]) = wS σ (m, s.2) ++ l := fun s l m => by rw [List.set_append_left _ _ (by rw [wS_len]; omega), wS_set5]
  have b4 : ∀ s l, (wS σ s ++ l)[4]? = some (.cells [.yld 3]) := fun s l => by rw [List.getElem?_append_left (by rw [wS_len]; omega), wS_get _ _ (by decide) (by decide), w.o4]
  have b6 : ∀ s l, (wS σ s ++ l)[6]? = some (.cells [.fn 60 [.ptr 5 0, .ptr 4 0, .ptr 6 0]]) := fun s l => by rw [List.getElem?_append_left (by rw [wS_len]; omega), wS_get _ _ (by decide) (by decide), w.o6]
  have g0 : ∀ s l, (wS σ s ++ l)[σ.length]? = l[0]? := fun s l => sA0 (wS_len σ s)
  have gk : ∀ s l k, (wS σ s ++ l)[σ.length + k]? = l[k]? := fun s l k => sAK (wS_len σ s)
  have s0 : ∀ s l y, (wS σ s ++ l).set σ.length y = wS σ s ++ l.set 0 y := fun s l y => sS0 (wS_len σ s)
  have sk : ∀ s l y k, (wS σ s ++ l).set (σ.length + k) y = wS σ s ++ l.set k y := fun s l y k => sSK (wS_len σ s)
  have t0 : ∀ s l, (wS σ s ++ l).take σ.length = wS σ s := fun s l => sT0 (wS_len σ s)
  have tk : ∀ s l k, (wS σ s ++ l).take (σ.length + k) = wS σ s ++ l.take k := fun s l k => sTK (wS_len σ s)
  have tx : ∀ s, (wS σ s).take σ.length = wS σ s := fun s => sTX (wS_len σ s)
  have yy : ∀ l, call Try.prog T H (.yld 3) [.p (iv s.1), .p (.agg [iv x.Label, iv p, iv i, iv (w64 (w64 (s.1 + v1) - 1))])] (wS σ (w64 (s.1 + 1), s.2) ++ l) = some (.ret (.p (bv true)), wS σ (w64 (s.1 + 1), o1) ++ l) := fun l => by
   have q := yield10 hE (ρ := wS σ (w64 (s.1 + 1), s.2) ++ l) (by rw [List.length_append, wS_len]; omega) (by rw [List.getElem?_append_left (by rw [wS_len]; omega), wS_get _ _ (by decide) (by decide), w.o3]) s.2 o1 (by rw [List.getElem?_append_left (by rw [wS_len]; omega), wS_1 _ hl]) s.1 _ e1
   rw [List.set_append_left _ _ (by rw [wS_len]; omega), wS_set1] at q
   exact q
  rw [call60]
  conv => arg 1; arg 7; unfold c60 Try.f60; simp only [Option.getD_some]
  simp only [go_sem, wS_len, b5, b5n, bs5, b4, b6, g0, gk, s0, sk, t0, tk, tx, yy, e_v1c]
  refine run_rangeL (c := L60_0) (live := [5, 10, 32, 33, 34]) (by simp only [go_sem]) (M := fun i1 (s1 : Int × List hedge_Info) => [(5, .ptr 6 0), (10, .p (iv s.1)), (32, .p (.sl none 2 (List.map row_Node x.Kids))), (33, .p (iv (x.Kids.length : Int))), (34, .p (iv (i1 : Int)))]) (Z := fun i1 s1 => wS σ s1 ++ [.cells [.p (iv x.Label), .p (.sl none 2 (List.map row_Node x.Kids))]]) (N := fun s1 => ⟨[], wS σ s1 ++ [.cells [.p (iv x.Label), .p (.sl none 2 (List.map row_Node x.Kids))]], [], none, false⟩) h rfl rfl (fun _ _ => rfl) ?_ ?_ ?_
  ·intro s1 h
   try dsimp only at h ⊢
   simp only [go_sem, wS_len, b5, b5n, bs5, b4, b6, g0, gk, s0, sk, t0, tk, tx]
   injection h with h; subst h
   exact Sat.ok hQ
  ·intro K1 s1 hb1 he1
   try dsimp only
   conv => arg 1; arg 7; unfold L60_0 loopAt c60 Try.f60; simp only [loopIn, Option.getD_some, if_true]
   simp only [go_sem, he1, wS_len, b5, b5n, bs5, b4, b6, g0, gk, s0, sk, t0, tk, tx]
   exact hb1
  ·intro K1 k1 i1 x1 s1 n1 hR1 hE1 hb1 hx1 hi1 hw1 ih1 h
   try dsimp only at h ⊢
   conv => arg 1; arg 7; unfold L60_0 loopAt c60 Try.f60; simp only [loopIn, Option.getD_some, if_true]
   obtain ⟨v2, e_v2, h⟩ := ob h
   have e_v2c : ∀ l, call Try.prog T H (.fn 60) [.p (.agg [iv x1.Label, .sl none 2 (List.map row_Node x1.Kids)]), .p (iv s.1), .p (iv (i1 : Int)), .ptr 5 0, .ptr 4 0, .ptr 6 0] (wS σ s1 ++ l) = some (.ret (.p (bv true)), wS σ v2 ++ l) := fun l => by
    have q := ih (σ ++ l) (w.app l) x1 s.1 (i1 : Int) s1 v2 e_v2
    rw [← wS_app _ hl, ← wS_app _ hl] at q
    exact q
   have c6 : 6 < σ.length + 1 := by omega
   simp only [go_sem, hx1, hi1, hw1, c6, e_v2c, hR1, hE1, wS_len, b5, b5n, bs5, b4, b6, g0, gk, s0, sk, t0, tk, tx]
   exact ih1 _ h
def hedge_Nodes (n : Nat) (a : Int) (x : Node) : Option (List hedge_Info × Int) :=
 (hedge_Valid n a x).bind fun v1 =>
 if v1 = true then (hedge_walk n n x (-1) 0 (0, [])).bind fun v => some (v.2, 0)
 else some ([], 1)
theorem spec10 (n : Nat) (a : Int) (x : Node) (r : List hedge_Info × Int) (h : hedge_Nodes n a x = some r) :
 call Try.prog T H (.fn 10) [.p (iv a), .p (.agg [iv x.Label, .sl none 2 (List.map row_Node x.Kids)])] [] = some (.ret (.p (.tup [.sl none 4 (List.map row_hedge_Info r.1), iv r.2])), []) := by
 refine Sat.fn fun Q hQ => ?_
 unfold hedge_Nodes at h
 obtain ⟨v1, e_v1, h⟩ := ob h
 have e_v1c := spec23 n a x v1 e_v1
 rw [call10, cf10]
 conv => arg 1; arg 7; unfold c10 Try.f10; simp only [Option.getD_some, foldR, if_true]
 by_cases c1 : v1 = true
 ·have h := iteT h c1
  obtain ⟨v, e_v, h⟩ := ob h
  simp only [go_sem, e_v1c, c1]
  refine Sat.callc ?_
  rw [call37]
  conv => arg 1; arg 7; unfold c37 Try.f37; simp only [Option.getD_some]
  simp only [go_sem]
  refine Sat.ok ?_
  simp only [go_sem]
  have q : ∀ E c, get E 6 = .ptr 1 0 → call Try.prog T H (.fn 60) [.p (.agg [iv x.Label, .sl none 2 (List.map row_Node x.Kids)]), .p (iv (-1)), .p (iv 0), .ptr 5 0, .ptr 4 0, .ptr 6 0] [c, .cells [.own 4 []], c, .loop 0 none 22 10 E [15, 16] A10_0 B10_0, .cells [.yld 3], .cells [.p (iv 0)], .cells [.fn 60 [.ptr 5 0, .ptr 4 0, .ptr 6 0]]] = some (.ret (.p (bv true)), [c, .cells [.own 4 (v.2.map row_hedge_Info)], c, .loop 0 none 22 10 E [15, 16] A10_0 B10_0, .cells [.yld 3], .cells [.p (iv v.1)], .cells [.fn 60 [.ptr 5 0, .ptr 4 0, .ptr 6 0]]]) := fun E c hE =>
   spec60 hE n n [c, .cells [.own 4 []], c, .loop 0 none 22 10 E [15, 16] A10_0 B10_0, .cells [.yld 3], .cells [.p (iv 0)], .cells [.fn 60 [.ptr 5 0, .ptr 4 0, .ptr 6 0]]] ⟨Nat.le_refl _, rfl, rfl, rfl⟩ x (-1) 0 (0, []) v e_v
  refine Sat.callrange ?_
  rw [call59]
  conv => arg 1; arg 7; unfold c59 Try.f59; simp only [Option.getD_some]
  simp only [go_sem, q]
  refine Sat.ok ?_
  simp only [go_sem, rangeK_ok, atLoop_some, pendK_none]
  injection h with h; subst h
  exact Sat.ok hQ
 ·have h := iteF h c1
  have c1 := eq_false_of_ne_true c1
  simp only [go_sem, e_v1c, c1]
  injection h with h; subst h
  exact Sat.ok hQ
end Go.AM.S02

namespace Go.AM.S02
open Go Go.Proofs Go.AM
set_option maxRecDepth 100000
set_option linter.unusedVariables false
set_option maxHeartbeats 4000000
def hedge_Encode (n : Nat) (a0 : Int) (a1 : List Node) : Option (Tree × Int) :=
 (hedge_ValidHedge n a0 a1).bind fun v1 =>
 if v1 = true then
  (hedge_Size n a1).bind fun v2 =>
  if 300 < (w64 ((w64 (2 * v2)) + 1)) then
   some ((Tree.mk 0 ([] : List Tree)), 3)
  else
   (hedge_encode n a0 a1).bind fun v3 =>
   some (v3, 0)
 else
  some ((Tree.mk 0 ([] : List Tree)), 1)
theorem spec14 (n : Nat) (a0 : Int) (a1 : List Node) (r : Tree × Int) (h : hedge_Encode n a0 a1 = some r) :
 call Try.prog T H (.fn 14) [.p (iv a0), .p (.sl none 2 (List.map row_Node a1))] [] = some (.ret (.p (.tup [.agg [iv r.1.Sym, .sl none 2 (List.map row_Tree r.1.Kids)], iv r.2])), []) := by
 refine Sat.fn fun Q hQ => ?_
 unfold hedge_Encode at h
 rw [call14]
 conv => arg 1; arg 7; unfold S02.c14 Try.f14; simp only [Option.getD_some]
 obtain ⟨v1, e_v1, h⟩ := ob h
 have e_v1c := spec25 n a0 a1 v1 e_v1
 by_cases c1 : v1 = true
 ·have h := iteT h c1
  obtain ⟨v2, e_v2, h⟩ := ob h
  have e_v2c := spec28 n a1 v2 e_v2
  by_cases c2 : 300 < (w64 ((w64 (2 * v2)) + 1))
  ·have h := iteT h c2
   simp only [go_sem, e_v1c, c1, e_v2c, c2]
   injection h with h; subst h
   exact Sat.ok hQ
  ·have h := iteF h c2
   obtain ⟨v3, e_v3, h⟩ := ob h
   have e_v3c := spec40 n a0 a1 v3 e_v3
   simp only [go_sem, e_v1c, c1, e_v2c, c2, e_v3c]
   injection h with h; subst h
   exact Sat.ok hQ
 ·have h := iteF h c1
  have c1 := eq_false_of_ne_true c1
  simp only [go_sem, e_v1c, c1]
  injection h with h; subst h
  exact Sat.ok hQ
def law02_awake (n : Nat)  : Option Bool :=
 (hedge_Encode n 2 [(Node.mk 0 [(Node.mk 1 ([] : List Node))]), (Node.mk 1 ([] : List Node))]).bind fun v1 =>
 (hedge_Nodes n 2 (Node.mk 0 [(Node.mk 1 [(Node.mk 0 ([] : List Node))]), (Node.mk 1 ([] : List Node))])).bind fun v2 =>
 if v1.2 = 0 then
  (ref01_Size n v1.1).bind fun v3 =>
  if v3 = 7 then
   if v1.1.Sym = 0 then
    (v1.1.Kids[0]?).bind fun v4 =>
    if v4.Sym = 1 then
     (v1.1.Kids[1]?).bind fun v5 =>
     if v5.Sym = 1 then
      if v2.2 = 0 then
       if (v2.1.length : Int) = 4 then
        (v2.1[1]?).bind fun v6 =>
        if v6.Label = 1 then
         if v6.Parent = 0 then
          if v6.Index = 0 then
           if v6.Last = 2 then
            some true
           else
            some false
          else
           some false
         else
          some false
        else
         some false
       else
        some false
      else
       some false
     else
      some false
    else
     some false
   else
    some false
  else
   some false
 else
  some false
theorem spec9 (n : Nat)  (r : Bool) (h : law02_awake n = some r) :
 call Try.prog T H (.fn 9) [] [] = some (.ret (.p (bv r)), []) := by
 refine Sat.fn fun Q hQ => ?_
 unfold law02_awake at h
 rw [call9]
 conv => arg 1; arg 7; unfold S02.c9 Try.f9; simp only [Option.getD_some]
 obtain ⟨v1, e_v1, h⟩ := ob h
 have e_v1c : call Try.prog T H (.fn 14) [.p (iv 2), .p (.sl none 2 [[iv 0, .sl none 2 [[iv 1, .sl none 2 []]]], [iv 1, .sl none 2 []]])] [] = some (.ret (.p (.tup [.agg [iv v1.1.Sym, .sl none 2 (List.map row_Tree v1.1.Kids)], iv v1.2])), []) := by have q := spec14 n 2 [(Node.mk 0 [(Node.mk 1 ([] : List Node))]), (Node.mk 1 ([] : List Node))] v1 e_v1; simp only [List.map_cons, List.map_nil, row_Node_eq] at q ⊢; exact q
 obtain ⟨v2, e_v2, h⟩ := ob h
 have e_v2c : call Try.prog T H (.fn 10) [.p (iv 2), .p (.agg [iv 0, .sl none 2 [[iv 1, .sl none 2 [[iv 0, .sl none 2 []]]], [iv 1, .sl none 2 []]]])] [] = some (.ret (.p (.tup [.sl none 4 (List.map row_hedge_Info v2.1), iv v2.2])), []) := by have q := spec10 n 2 (Node.mk 0 [(Node.mk 1 [(Node.mk 0 ([] : List Node))]), (Node.mk 1 ([] : List Node))]) v2 e_v2; simp only [List.map_cons, List.map_nil, row_Node_eq] at q ⊢; exact q
 by_cases c1 : v1.2 = 0
 ·have h := iteT h c1
  have c1b : (v1.2 == 0) = true := beqT c1
  obtain ⟨v3, e_v3, h⟩ := ob h
  have e_v3c := spec36 n v1.1 v3 e_v3
  by_cases c2 : v3 = 7
  ·have h := iteT h c2
   have c2b : (v3 == 7) = true := beqT c2
   by_cases c3 : v1.1.Sym = 0
   ·have h := iteT h c3
    have c3b : (v1.1.Sym == 0) = true := beqT c3
    obtain ⟨v4, e_v4, h⟩ := ob h
    by_cases c4 : v4.Sym = 1
    ·have h := iteT h c4
     have c4b : (v4.Sym == 1) = true := beqT c4
     obtain ⟨v5, e_v5, h⟩ := ob h
     by_cases c5 : v5.Sym = 1
     ·have h := iteT h c5
      have c5b : (v5.Sym == 1) = true := beqT c5
      by_cases c6 : v2.2 = 0
      ·have h := iteT h c6
       have c6b : (v2.2 == 0) = true := beqT c6
       by_cases c7 : (v2.1.length : Int) = 4
       ·have h := iteT h c7
        have c7b : ((v2.1.length : Int) == 4) = true := beqT c7
        obtain ⟨v6, e_v6, h⟩ := ob h
        by_cases c8 : v6.Label = 1
        ·have h := iteT h c8
         have c8b : (v6.Label == 1) = true := beqT c8
         by_cases c9 : v6.Parent = 0
         ·have h := iteT h c9
          have c9b : (v6.Parent == 0) = true := beqT c9
          by_cases c10 : v6.Index = 0
          ·have h := iteT h c10
           have c10b : (v6.Index == 0) = true := beqT c10
           by_cases c11 : v6.Last = 2
           ·have h := iteT h c11
            have c11b : (v6.Last == 2) = true := beqT c11
            simp only [go_sem, e_v1c, e_v2c, c1b, e_v3c, c2b, c3b, e_v4, c4b, e_v5, c5b, c6b, c7b, e_v6, c8b, c9b, c10b, c11b]
            injection h with h; subst h
            exact Sat.ok hQ
           ·have h := iteF h c11
            have c11b : (v6.Last == 2) = false := beqF c11
            simp only [go_sem, e_v1c, e_v2c, c1b, e_v3c, c2b, c3b, e_v4, c4b, e_v5, c5b, c6b, c7b, e_v6, c8b, c9b, c10b, c11b]
            injection h with h; subst h
            exact Sat.ok hQ
          ·have h := iteF h c10
           have c10b : (v6.Index == 0) = false := beqF c10
           simp only [go_sem, e_v1c, e_v2c, c1b, e_v3c, c2b, c3b, e_v4, c4b, e_v5, c5b, c6b, c7b, e_v6, c8b, c9b, c10b]
           injection h with h; subst h
           exact Sat.ok hQ
         ·have h := iteF h c9
          have c9b : (v6.Parent == 0) = false := beqF c9
          simp only [go_sem, e_v1c, e_v2c, c1b, e_v3c, c2b, c3b, e_v4, c4b, e_v5, c5b, c6b, c7b, e_v6, c8b, c9b]
          injection h with h; subst h
          exact Sat.ok hQ
        ·have h := iteF h c8
         have c8b : (v6.Label == 1) = false := beqF c8
         simp only [go_sem, e_v1c, e_v2c, c1b, e_v3c, c2b, c3b, e_v4, c4b, e_v5, c5b, c6b, c7b, e_v6, c8b]
         injection h with h; subst h
         exact Sat.ok hQ
       ·have h := iteF h c7
        have c7b : ((v2.1.length : Int) == 4) = false := beqF c7
        simp only [go_sem, e_v1c, e_v2c, c1b, e_v3c, c2b, c3b, e_v4, c4b, e_v5, c5b, c6b, c7b]
        injection h with h; subst h
        exact Sat.ok hQ
      ·have h := iteF h c6
       have c6b : (v2.2 == 0) = false := beqF c6
       simp only [go_sem, e_v1c, e_v2c, c1b, e_v3c, c2b, c3b, e_v4, c4b, e_v5, c5b, c6b]
       injection h with h; subst h
       exact Sat.ok hQ
     ·have h := iteF h c5
      have c5b : (v5.Sym == 1) = false := beqF c5
      simp only [go_sem, e_v1c, e_v2c, c1b, e_v3c, c2b, c3b, e_v4, c4b, e_v5, c5b]
      injection h with h; subst h
      exact Sat.ok hQ
    ·have h := iteF h c4
     have c4b : (v4.Sym == 1) = false := beqF c4
     simp only [go_sem, e_v1c, e_v2c, c1b, e_v3c, c2b, c3b, e_v4, c4b]
     injection h with h; subst h
     exact Sat.ok hQ
   ·have h := iteF h c3
    have c3b : (v1.1.Sym == 0) = false := beqF c3
    simp only [go_sem, e_v1c, e_v2c, c1b, e_v3c, c2b, c3b]
    injection h with h; subst h
    exact Sat.ok hQ
  ·have h := iteF h c2
   have c2b : (v3 == 7) = false := beqF c2
   simp only [go_sem, e_v1c, e_v2c, c1b, e_v3c, c2b]
   injection h with h; subst h
   exact Sat.ok hQ
 ·have h := iteF h c1
  have c1b : (v1.2 == 0) = false := beqF c1
  simp only [go_sem, e_v1c, e_v2c, c1b]
  injection h with h; subst h
  exact Sat.ok hQ
def law02_HedgeTexts (n : Nat) (a0 : Int) (a1 : List Str) (a2 : List Node) (a3 : Str) : Option Bool :=
 (ref02_Few n a2 2000).bind fun v1 =>
 if v1 = true then
  if 40 < (a1.length : Int) then
   (law02_awake n).bind fun v2 =>
   some v2
  else
   if 20000 < (a3.length : Int) then
    (law02_awake n).bind fun v3 =>
    some v3
   else
    (hedge_Print n a0 a1 a2).bind fun v4 =>
    (ref02_Print n a0 a1 a2).bind fun v5 =>
    (hedge_Parse n a0 a1 a3).bind fun v6 =>
    (ref02_Parse n a0 a1 a3).bind fun v7 =>
    if v4.1 = v5.1 then
     if v4.2 = v5.2 then
      (ref02_Same n v6.1 v7.1).bind fun v8 =>
      if v8 = true then
       if v6.2 = v7.2 then
        if v4.2 = 0 then
         if (v4.1.length : Int) ≤ 16384 then
          (hedge_Parse n a0 a1 v4.1).bind fun v9 =>
          if v9.2 = 0 then
           (ref02_Same n v9.1 a2).bind fun v10 =>
           if v10 = true then
            (law02_awake n).bind fun v11 =>
            some v11
           else
            some false
          else
           some false
         else
          (law02_awake n).bind fun v12 =>
          some v12
        else
         (law02_awake n).bind fun v13 =>
         some v13
       else
        some false
      else
       some false
     else
      some false
    else
     some false
 else
  (law02_awake n).bind fun v14 =>
  some v14
theorem spec7 (n : Nat) (a0 : Int) (a1 : List Str) (a2 : List Node) (a3 : Str) (r : Bool) (h : law02_HedgeTexts n a0 a1 a2 a3 = some r) :
 call Try.prog T H (.fn 7) [.p (iv a0), .p (.sl none 1 (List.map rowS a1)), .p (.sl none 2 (List.map row_Node a2)), .p (.lit (.string (bs a3)))] [] = some (.ret (.p (bv r)), []) := by
 refine Sat.fn fun Q hQ => ?_
 unfold law02_HedgeTexts at h
 rw [call7]
 conv => arg 1; arg 7; unfold S02.c7 Try.f7; simp only [Option.getD_some]
 obtain ⟨v1, e_v1, h⟩ := ob h
 have e_v1c := spec8 n a2 2000 v1 e_v1
 by_cases c1 : v1 = true
 ·have h := iteT h c1
  by_cases c2 : 40 < (a1.length : Int)
  ·have h := iteT h c2
   obtain ⟨v2, e_v2, h⟩ := ob h
   have e_v2c := spec9 n v2 e_v2
   simp only [go_sem, e_v1c, c1, c2, e_v2c]
   injection h with h; subst h
   exact Sat.ok hQ
  ·have h := iteF h c2
   by_cases c3 : 20000 < (a3.length : Int)
   ·have h := iteT h c3
    obtain ⟨v3, e_v3, h⟩ := ob h
    have e_v3c := spec9 n v3 e_v3
    simp only [go_sem, e_v1c, c1, c2, c3, e_v3c]
    injection h with h; subst h
    exact Sat.ok hQ
   ·have h := iteF h c3
    obtain ⟨v4, e_v4, h⟩ := ob h
    have e_v4c := spec31 n a0 a1 a2 v4 e_v4
    obtain ⟨v5, e_v5, h⟩ := ob h
    have e_v5c := spec32 n a0 a1 a2 v5 e_v5
    obtain ⟨v6, e_v6, h⟩ := ob h
    have e_v6c := spec33 n a0 a1 a3 v6 e_v6
    obtain ⟨v7, e_v7, h⟩ := ob h
    have e_v7c := spec34 n a0 a1 a3 v7 e_v7
    by_cases c4 : v4.1 = v5.1
    ·have h := iteT h c4
     have c4b : (v4.1 == v5.1) = true := beqT c4
     by_cases c5 : v4.2 = v5.2
     ·have h := iteT h c5
      have c5b : (v4.2 != v5.2) = false := bneF c5
      obtain ⟨v8, e_v8, h⟩ := ob h
      have e_v8c := spec19 n v6.1 v7.1 v8 e_v8
      by_cases c6 : v8 = true
      ·have h := iteT h c6
       by_cases c7 : v6.2 = v7.2
       ·have h := iteT h c7
        have c7b : (v6.2 != v7.2) = false := bneF c7
        by_cases c8 : v4.2 = 0
        ·have h := iteT h c8
         have c8b : (v4.2 == 0) = true := beqT c8
         by_cases c9 : (v4.1.length : Int) ≤ 16384
         ·have h := iteT h c9
          obtain ⟨v9, e_v9, h⟩ := ob h
          have e_v9c := spec33 n a0 a1 v4.1 v9 e_v9
          by_cases c10 : v9.2 = 0
          ·have h := iteT h c10
           have c10b : (v9.2 == 0) = true := beqT c10
           obtain ⟨v10, e_v10, h⟩ := ob h
           have e_v10c := spec19 n v9.1 a2 v10 e_v10
           by_cases c11 : v10 = true
           ·have h := iteT h c11
            obtain ⟨v11, e_v11, h⟩ := ob h
            have e_v11c := spec9 n v11 e_v11
            simp only [go_sem, e_v1c, c1, c2, c3, e_v4c, e_v5c, e_v6c, e_v7c, c4b, c5b, e_v8c, c6, c7b, c8b, c9, e_v9c, c10b, e_v10c, c11, e_v11c]
            injection h with h; subst h
            exact Sat.ok hQ
           ·have h := iteF h c11
            have c11 := eq_false_of_ne_true c11
            simp only [go_sem, e_v1c, c1, c2, c3, e_v4c, e_v5c, e_v6c, e_v7c, c4b, c5b, e_v8c, c6, c7b, c8b, c9, e_v9c, c10b, e_v10c, c11]
            injection h with h; subst h
            exact Sat.ok hQ
          ·have h := iteF h c10
           have c10b : (v9.2 == 0) = false := beqF c10
           simp only [go_sem, e_v1c, c1, c2, c3, e_v4c, e_v5c, e_v6c, e_v7c, c4b, c5b, e_v8c, c6, c7b, c8b, c9, e_v9c, c10b]
           injection h with h; subst h
           exact Sat.ok hQ
         ·have h := iteF h c9
          obtain ⟨v12, e_v12, h⟩ := ob h
          have e_v12c := spec9 n v12 e_v12
          simp only [go_sem, e_v1c, c1, c2, c3, e_v4c, e_v5c, e_v6c, e_v7c, c4b, c5b, e_v8c, c6, c7b, c8b, c9, e_v12c]
          injection h with h; subst h
          exact Sat.ok hQ
        ·have h := iteF h c8
         have c8b : (v4.2 == 0) = false := beqF c8
         obtain ⟨v13, e_v13, h⟩ := ob h
         have e_v13c := spec9 n v13 e_v13
         simp only [go_sem, e_v1c, c1, c2, c3, e_v4c, e_v5c, e_v6c, e_v7c, c4b, c5b, e_v8c, c6, c7b, c8b, e_v13c]
         injection h with h; subst h
         exact Sat.ok hQ
       ·have h := iteF h c7
        have c7b : (v6.2 != v7.2) = true := bneT c7
        simp only [go_sem, e_v1c, c1, c2, c3, e_v4c, e_v5c, e_v6c, e_v7c, c4b, c5b, e_v8c, c6, c7b]
        injection h with h; subst h
        exact Sat.ok hQ
      ·have h := iteF h c6
       have c6 := eq_false_of_ne_true c6
       simp only [go_sem, e_v1c, c1, c2, c3, e_v4c, e_v5c, e_v6c, e_v7c, c4b, c5b, e_v8c, c6]
       injection h with h; subst h
       exact Sat.ok hQ
     ·have h := iteF h c5
      have c5b : (v4.2 != v5.2) = true := bneT c5
      simp only [go_sem, e_v1c, c1, c2, c3, e_v4c, e_v5c, e_v6c, e_v7c, c4b, c5b]
      injection h with h; subst h
      exact Sat.ok hQ
    ·have h := iteF h c4
     have c4b : (v4.1 == v5.1) = false := beqF c4
     simp only [go_sem, e_v1c, c1, c2, c3, e_v4c, e_v5c, e_v6c, e_v7c, c4b]
     injection h with h; subst h
     exact Sat.ok hQ
 ·have h := iteF h c1
  have c1 := eq_false_of_ne_true c1
  obtain ⟨v14, e_v14, h⟩ := ob h
  have e_v14c := spec9 n v14 e_v14
  simp only [go_sem, e_v1c, c1, e_v14c]
  injection h with h; subst h
  exact Sat.ok hQ
end Go.AM.S02

namespace Go.AM.S02
open Go Go.Proofs Go.AM
set_option linter.unusedVariables false
theorem w64_eq {n : Int} (h1 : -9223372036854775808 ≤ n) (h2 : n ≤ 9223372036854775807) : w64 n = n := wrapN h1 h2
mutual
def nsN : Node → Nat
 | .mk _ k => nsL k
def nsL : List Node → Nat
 | [] => 0
 | x :: r => 1 + nsN x + nsL r
end
mutual
def dN : Node → Nat
 | .mk _ k => dL k
def dL : List Node → Nat
 | [] => 0
 | x :: r => max (dN x + 1) (dL r)
end
mutual
def labN (a : Int) : Node → Bool
 | .mk l k => decide (0 ≤ l ∧ l < a) && labL a k
def labL (a : Int) : List Node → Bool
 | [] => true
 | x :: r => labN a x && labL a r
end
theorem nsN_eq (x : Node) : nsN x = nsL x.Kids := by cases x; rw [nsN]
theorem dN_eq (x : Node) : dN x = dL x.Kids := by cases x; rw [dN]
theorem nsL_cons (x : Node) (r : List Node) : nsL (x :: r) = 1 + nsL x.Kids + nsL r := by rw [nsL, nsN_eq]
theorem labL_cons (a : Int) (x : Node) (r : List Node) : labL a (x :: r) = (decide (0 ≤ x.Label ∧ x.Label < a) && labL a x.Kids && labL a r) := by rw [labL]; cases x; rw [labN]
theorem dL_cons {x : Node} {r : List Node} {n : Nat} (h : dL (x :: r) < n + 1) : dL x.Kids < n ∧ dL r < n + 1 := by rw [dL, dN_eq] at h; omega
theorem len_ns : ∀ l : List Node, l.length ≤ nsL l
 | [] => Nat.zero_le _
 | x :: r => by rw [nsL_cons, List.length_cons]; have := len_ns r; omega
theorem size_eq : ∀ (n : Nat) (h : List Node), dL h < n → nsL h < 4611686018427387904 → hedge_Size n h = some (nsL h : Int) := by
 intro n
 induction n with
 | zero => intro h hd; omega
 | succ n ih =>
  intro h hd hs
  rw [hedge_Size, rangeL, if_pos (by have := len_ns h; omega)]
  suffices H : ∀ (l : List Node) (i : Nat) (s : Int) (k : Int → Option Int), dL l < n + 1 → 0 ≤ s → s + nsL l < 4611686018427387904 + l.length → rangeC (fun i1 x1 (s1 : Int) n1 => (hedge_Size n x1.Kids).bind fun v1 => n1 (w64 (s1 + v1))) l i s k = k (s + nsL l - l.length) by
   rw [H h 0 h.length _ hd (by omega) (by omega)]
   congr 1; omega
  intro l
  induction l with
  | nil => intro i s k _ _ _; rw [rangeC]; congr 1; simp [nsL]
  | cons x r ihr =>
   intro i s k hd h0 h1
   obtain ⟨d1, d2⟩ := dL_cons hd
   rw [nsL_cons, List.length_cons] at h1
   have lr := len_ns r
   rw [rangeC, ih x.Kids d1 (by omega)]
   show rangeC _ r (i + 1) (w64 (s + (nsL x.Kids : Int))) k = _
   rw [w64_eq (by omega) (by omega), ihr _ _ _ d2 (by omega) (by omega)]
   congr 1; rw [nsL_cons, List.length_cons]; omega
mutual
def wdN : Node → Bool
 | .mk _ k => decide (k.length < 9223372036854775808) && wdL k
def wdL : List Node → Bool
 | [] => true
 | x :: r => wdN x && wdL r
end
theorem wdL_cons {x : Node} {r : List Node} (h : wdL (x :: r) = true) : x.Kids.length < 9223372036854775808 ∧ wdL x.Kids = true ∧ wdL r = true := by
 rw [wdL] at h; cases x; rw [wdN] at h; simpa [and_assoc] using h
theorem count_eq : ∀ (n : Nat) (h : List Node) (m : Int), dL h < n → h.length < 9223372036854775808 → wdL h = true → -1 ≤ m → m ≤ 1000000 → ref02_count n h m = some (min (nsL h : Int) (m + 1)) := by
 intro n
 induction n with
 | zero => intro h m hd; omega
 | succ n ih =>
  intro h m hd hl hw h1 h2
  rw [ref02_count, rangeL, if_pos hl]
  suffices H : ∀ (l : List Node) (i : Nat) (t : Nat) (k : Int → Option Int), dL l < n + 1 → wdL l = true → rangeC (fun i1 x1 (s1 : Int) n1 =>
   if s1 ≤ m then
    (ref02_count n x1.Kids (w64 ((w64 (m - s1)) - 1))).bind fun v1 =>
    n1 (w64 (s1 + (w64 (1 + v1))))
   else
    n1 s1) l i (min (t : Int) (m + 1)) k = k (min ((t + nsL l : Nat) : Int) (m + 1)) by
   have := H h 0 0 (fun s => some s) hd hw
   rw [show min ((0 : Nat) : Int) (m + 1) = 0 by omega] at this
   rw [this]; congr 1; simp
  intro l
  induction l with
  | nil => intro i t k _ _; rw [rangeC]; congr 1
  | cons x r ihr =>
   intro i t k hd hw
   obtain ⟨d1, d2⟩ := dL_cons hd
   obtain ⟨w1, w2, w3⟩ := wdL_cons hw
   rw [rangeC]
   by_cases c : min (t : Int) (m + 1) ≤ m
   ·rw [if_pos c]
    have e : min (t : Int) (m + 1) = t := by omega
    rw [e, w64_eq (n := m - t) (by omega) (by omega), w64_eq (n := m - t - 1) (by omega) (by omega), ih x.Kids _ d1 w1 w2 (by omega) (by omega)]
    show rangeC _ r (i + 1) (w64 (t + w64 (1 + min (nsL x.Kids : Int) (m - t - 1 + 1)))) k = _
    rw [w64_eq (n := 1 + _) (by omega) (by omega), w64_eq (by omega) (by omega)]
    have := ihr (i + 1) (t + 1 + nsL x.Kids) k d2 w3
    rw [show (t : Int) + (1 + min (nsL x.Kids : Int) (m - t - 1 + 1)) = min ((t + 1 + nsL x.Kids : Nat) : Int) (m + 1) by omega, this, nsL_cons]
    congr 2; omega
   ·rw [if_neg c]
    show rangeC _ r (i + 1) (min (t : Int) (m + 1)) k = _
    have := ihr (i + 1) (t + 1 + nsL x.Kids) k d2 w3
    rw [show min (t : Int) (m + 1) = min ((t + 1 + nsL x.Kids : Nat) : Int) (m + 1) by omega, this, nsL_cons]
    congr 2; omega
theorem few_eq {n : Nat} {h : List Node} {m : Int} (hd : dL h < n) (hl : h.length < 9223372036854775808) (hw : wdL h = true) (h1 : -1 ≤ m) (h2 : m ≤ 1000000) : ref02_Few n h m = some (decide ((nsL h : Int) ≤ m)) := by
 rw [ref02_Few, count_eq n h m hd hl hw h1 h2]
 show some _ = some _
 congr 1
 exact decide_eq_decide.2 (by omega)
theorem formed_eq : ∀ (n : Nat) (a : Int) (h : List Node) (m : Int), dL h < n → h.length < 9223372036854775808 → wdL h = true → 0 ≤ m → m ≤ 1000000 →
 (((nsL h : Int) ≤ m ∧ labL a h = true) ∧ hedge_formed n a h m = some (true, m - nsL h)) ∨ (¬ ((nsL h : Int) ≤ m ∧ labL a h = true) ∧ ∃ v, hedge_formed n a h m = some (false, v)) := by
 intro n
 induction n with
 | zero => intro a h m hd; omega
 | succ n ih =>
  intro a h m hd hl hw h1 h2
  rw [hedge_formed, rangeL, if_pos hl]
  suffices H : ∀ (l : List Node) (i : Nat) (s : Int), dL l < n + 1 → wdL l = true → 0 ≤ s → s ≤ 1000000 →
   (((nsL l : Int) ≤ s ∧ labL a l = true) ∧ ∀ k : Int → Option (Bool × Int), rangeC (fun i1 x1 (s1 : Int) n1 => if (w64 (s1 - 1)) < 0 then some (false, w64 (s1 - 1)) else if x1.Label < 0 then some (false, w64 (s1 - 1)) else if a ≤ x1.Label then some (false, w64 (s1 - 1)) else (hedge_formed n a x1.Kids (w64 (s1 - 1))).bind fun v1 => if v1.1 = true then n1 v1.2 else some (false, v1.2)) l i s k = k (s - nsL l)) ∨
   (¬ ((nsL l : Int) ≤ s ∧ labL a l = true) ∧ ∃ v, ∀ k : Int → Option (Bool × Int), rangeC (fun i1 x1 (s1 : Int) n1 => if (w64 (s1 - 1)) < 0 then some (false, w64 (s1 - 1)) else if x1.Label < 0 then some (false, w64 (s1 - 1)) else if a ≤ x1.Label then some (false, w64 (s1 - 1)) else (hedge_formed n a x1.Kids (w64 (s1 - 1))).bind fun v1 => if v1.1 = true then n1 v1.2 else some (false, v1.2)) l i s k = some (false, v)) by
   rcases H h 0 m hd hw h1 h2 with ⟨c, e⟩ | ⟨c, v, e⟩
   ·exact .inl ⟨c, e _⟩
   ·exact .inr ⟨c, v, e _⟩
  intro l
  induction l with
  | nil => intro i s _ _ h1 h2; exact .inl ⟨⟨by simp [nsL]; omega, by rw [labL]⟩, fun k => by rw [rangeC]; congr 1; simp [nsL]⟩
  | cons x r ihr =>
   intro i s hd hw h1 h2
   obtain ⟨d1, d2⟩ := dL_cons hd
   obtain ⟨w1, w2, w3⟩ := wdL_cons hw
   rw [nsL_cons, labL_cons]
   simp only [Bool.and_eq_true, decide_eq_true_eq]
   have e1 : w64 (s - 1) = s - 1 := w64_eq (by omega) (by omega)
   simp only [rangeC, e1]
   by_cases c1 : s - 1 < 0
   ·exact .inr ⟨by omega, s - 1, fun k => by rw [if_pos c1]⟩
   by_cases c2 : x.Label < 0
   ·exact .inr ⟨by omega, s - 1, fun k => by rw [if_neg c1, if_pos c2]⟩
   by_cases c3 : a ≤ x.Label
   ·exact .inr ⟨by omega, s - 1, fun k => by rw [if_neg c1, if_neg c2, if_pos c3]⟩
   simp only [if_neg c1, if_neg c2, if_neg c3]
   rcases ih a x.Kids (s - 1) d1 w1 w2 (by omega) (by omega) with ⟨c, e⟩ | ⟨c, v, e⟩
   ·rcases ihr (i + 1) (s - 1 - nsL x.Kids) d2 w3 (by omega) (by omega) with ⟨c', e'⟩ | ⟨c', v, e'⟩
    ·exact .inl ⟨⟨by omega, ⟨⟨⟨by omega, by omega⟩, c.2⟩, c'.2⟩⟩, fun k => by rw [e]; simp only [Option.bind_some, if_true]; rw [e' k]; congr 1; omega⟩
    ·exact .inr ⟨fun hh => c' ⟨by omega, hh.2.2⟩, v, fun k => by rw [e]; simp only [Option.bind_some, if_true]; rw [e' k]⟩
   ·exact .inr ⟨fun hh => c ⟨by omega, hh.2.1.2⟩, v, fun k => by rw [e]; rfl⟩
theorem labelled_eq : ∀ (n : Nat) (a : Int) (h : List Node), dL h < n → h.length < 9223372036854775808 → wdL h = true → ref02_labelled n a h = some (labL a h) := by
 intro n
 induction n with
 | zero => intro a h hd; omega
 | succ n ih =>
  intro a h hd hl hw
  rw [ref02_labelled, rangeL, if_pos hl]
  suffices H : ∀ (l : List Node) (i : Nat), dL l < n + 1 → wdL l = true → rangeC (fun i1 x1 (s1 : Unit) n1 => if x1.Label < 0 then some false else if a ≤ x1.Label then some false else (ref02_labelled n a x1.Kids).bind fun v1 => if v1 = true then n1 () else some false) l i () (fun _ => some true) = some (labL a l) from H h 0 hd hw
  intro l
  induction l with
  | nil => intro i _ _; rw [rangeC, labL]
  | cons x r ihr =>
   intro i hd hw
   obtain ⟨d1, d2⟩ := dL_cons hd
   obtain ⟨w1, w2, w3⟩ := wdL_cons hw
   rw [rangeC, labL_cons, ih a x.Kids d1 w1 w2]
   by_cases c2 : x.Label < 0
   ·rw [if_pos c2, decide_eq_false (by omega)]; rfl
   by_cases c3 : a ≤ x.Label
   ·rw [if_neg c2, if_pos c3, decide_eq_false (by omega)]; rfl
   rw [if_neg c2, if_neg c3, decide_eq_true ⟨by omega, by omega⟩]
   simp only [Option.bind_some]
   cases labL a x.Kids with
   | true => rw [if_pos rfl, ihr (i + 1) d2 w3]; rfl
   | false => rfl
def vld (a : Int) (h : List Node) : Bool := decide (1 ≤ a ∧ a ≤ 8) && (decide ((nsL h : Int) ≤ 300) && labL a h)
theorem hvalid_eq {n : Nat} {a : Int} {h : List Node} (hd : dL h < n) (hl : h.length < 9223372036854775808) (hw : wdL h = true) : hedge_ValidHedge n a h = some (vld a h) := by
 unfold hedge_ValidHedge hedge_labels vld
 by_cases c1 : 1 ≤ a
 ·rw [if_pos c1]
  by_cases c2 : a ≤ 8
  ·simp only [decide_eq_true c2, Option.bind_some, if_true]
   rw [decide_eq_true (show 1 ≤ a ∧ a ≤ 8 from ⟨c1, c2⟩)]
   rcases formed_eq n a h 300 hd hl hw (by omega) (by omega) with ⟨c, e⟩ | ⟨c, v, e⟩
   ·rw [e, decide_eq_true c.1, c.2]; rfl
   ·rw [e]
    simp only [Option.bind_some, Bool.true_and]
    congr 1
    cases h1 : labL a h with
    | false => simp
    | true => rw [decide_eq_false (fun h2 => c ⟨h2, h1⟩)]; rfl
  ·rw [decide_eq_false c2, decide_eq_false (by omega)]; rfl
 ·rw [if_neg c1, decide_eq_false (by omega)]; rfl
theorem rvalid_eq {n : Nat} {a : Int} {h : List Node} (hd : dL h < n) (hl : h.length < 9223372036854775808) (hw : wdL h = true) : ref02_ValidHedge n a h = some (vld a h) := by
 unfold ref02_ValidHedge vld
 by_cases c1 : 1 ≤ a
 ·rw [if_pos c1]
  by_cases c2 : a ≤ 8
  ·rw [if_pos c2, few_eq hd hl hw (by omega) (by omega), decide_eq_true (show 1 ≤ a ∧ a ≤ 8 from ⟨c1, c2⟩)]
   simp only [Option.bind_some, Bool.true_and]
   by_cases c3 : (nsL h : Int) ≤ 300
   ·rw [decide_eq_true c3, if_pos rfl, labelled_eq n a h hd hl hw]; rfl
   ·rw [decide_eq_false c3]; rfl
  ·rw [if_neg c2, decide_eq_false (by omega)]; rfl
 ·rw [if_neg c1, decide_eq_false (by omega)]; rfl
end Go.AM.S02

namespace Go.AM.S02
open Go Go.Proofs Go.AM
set_option linter.unusedVariables false
theorem app_ok {α : Type} {b : Nat} {xs ys : List α} (h : (xs.length + ys.length) * b ≤ 70368744177664) : app b xs ys = some (xs ++ ys) := if_pos h
theorem awake_eq (m : Nat) : law02_awake (m + 10) = some true := by rfl
end Go.AM.S02

namespace Go.AM.S02
open Go Go.Proofs Go.AM
set_option linter.unusedVariables false
end Go.AM.S02

namespace Go.AM
open Go
theorem hOf_pr {f : FuncId} : ∀ {l : List (Nat × FH)}, (l.all fun p => p.2.pr.isNone) = true → (hOf l f).pr = none
 | [], _ => rfl
 | (k, h) :: r, ha => by
  rw [List.all_cons, Bool.and_eq_true] at ha
  unfold hOf
  split
  ·have := ha.1
   cases hp : h.pr with
   | none => rfl
   | some p => simp [hp] at this
  ·exact hOf_pr ha.2
section
variable {T : Tab}
theorem wt_int {n : Nat} {t : TypeId} {cs : List PV} (hd : (T.at t).d = .int .i64) (h : wt T n t cs) : ∃ i, cs = [iv i] ∧ -9223372036854775808 ≤ i ∧ i ≤ 9223372036854775807 := by
 cases n with
 | zero => exact h.elim
 | succ n =>
  unfold wt at h
  rw [hd] at h
  obtain ⟨i, rfl, h1, h2⟩ := h
  refine ⟨i, rfl, ?_⟩
  have e1 : IntKind.i64.min = -9223372036854775808 := by decide
  have e2 : IntKind.i64.max = 9223372036854775807 := by decide
  rw [e1] at h1; rw [e2] at h2
  exact ⟨h1, h2⟩
theorem wt_sl {n : Nat} {t e : TypeId} {cs : List PV} (hd : (T.at t).d = .sl e) (h : wt T n t cs) : ∃ m rows, n = m + 1 ∧ cs = [.sl none (T.at e).size rows] ∧ rows.length < 9223372036854775808 ∧ ∀ r, r ∈ rows → wt T m e r := by
 cases n with
 | zero => exact h.elim
 | succ n =>
  unfold wt at h
  rw [hd] at h
  obtain ⟨rows, rfl, h1, h2⟩ := h
  have : maxLen < 9223372036854775808 := by decide
  exact ⟨n, rows, rfl, rfl, by omega, h2⟩
theorem wt_st {n : Nat} {t : TypeId} {fs : List (Nat × TypeId)} {cs : List PV} (hd : (T.at t).d = .st fs) (h : wt T n t cs) : ∃ m, n = m + 1 ∧ cs.length = (T.at t).size ∧ ∀ f, f ∈ fs → wt T m f.2 ((cs.drop f.1).take (T.at f.2).size) := by
 cases n with
 | zero => exact h.elim
 | succ n =>
  unfold wt at h
  rw [hd] at h
  exact ⟨n, rfl, h⟩
theorem rows_map {α : Type} {row : α → List PV} {P : α → Prop} : ∀ {rows : List (List PV)}, (∀ r, r ∈ rows → ∃ x, r = row x ∧ P x) → ∃ xs : List α, rows = xs.map row ∧ ∀ x, x ∈ xs → P x
 | [], _ => ⟨[], rfl, by simp⟩
 | r :: rows, h => by
  obtain ⟨x, rfl, hx⟩ := h r (by simp)
  obtain ⟨xs, rfl, hxs⟩ := rows_map (rows := rows) (fun r' h' => h r' (List.mem_cons_of_mem _ h'))
  exact ⟨x :: xs, rfl, fun y hy => by
   rcases List.mem_cons.1 hy with rfl | hy
   ·exact hx
   ·exact hxs y hy⟩
theorem wt_slM {n : Nat} {t e : TypeId} {cs : List PV} {α : Type} {row : α → List PV} {P : α → Prop} (hd : (T.at t).d = .sl e) (h : wt T n t cs) (he : ∀ m r, m < n → wt T m e r → ∃ x, r = row x ∧ P x) : ∃ xs : List α, cs = [.sl none (T.at e).size (xs.map row)] ∧ xs.length < 9223372036854775808 ∧ ∀ x, x ∈ xs → P x := by
 obtain ⟨m, rows, rfl, rfl, h1, h2⟩ := wt_sl hd h
 obtain ⟨xs, rfl, hx⟩ := rows_map (row := row) (P := P) (fun r hr => he m r (by omega) (h2 r hr))
 exact ⟨xs, rfl, by simpa using h1, hx⟩
end
end Go.AM

namespace Go.AM.S02
open Go Go.Proofs Go.AM
theorem wdL_all : ∀ {l : List Node}, (∀ x, x ∈ l → wdN x = true) → wdL l = true
 | [], _ => by rw [wdL]
 | x :: r, h => by rw [wdL, h x (by simp), wdL_all (fun y hy => h y (List.mem_cons_of_mem _ hy))]; rfl
theorem d3 : (T.at 3).d = .int .i64 := rfl
theorem d24 : (T.at 24).d = .st [(0, 3), (1, 22)] := rfl
theorem d22 : (T.at 22).d = .sl 24 := rfl
theorem sz3 : (T.at 3).size = 1 := rfl
theorem sz22 : (T.at 22).size = 1 := rfl
theorem sz24 : (T.at 24).size = 2 := rfl
theorem wt24 : ∀ (n : Nat) (cs : List PV), wt T n 24 cs → ∃ x : Node, cs = row_Node x ∧ wdN x = true := by
 intro n
 induction n using Nat.strongRecOn with
 | _ n ih =>
  intro cs h
  obtain ⟨m, rfl, h1, h2⟩ := wt_st d24 h
  rw [sz24] at h1
  match cs, h1 with
  | [c0, c1], _ =>
   have f0 := h2 (0, 3) (by simp)
   have f1 := h2 (1, 22) (by simp)
   simp only [sz3, sz22, List.drop_zero, List.drop_succ_cons, List.take_succ_cons, List.take_zero] at f0 f1
   obtain ⟨i, e0, _⟩ := wt_int d3 f0
   obtain ⟨xs, e1, hl, hx⟩ := wt_slM (row := row_Node) (P := fun x => wdN x = true) d22 f1 (fun m' r hm hr => ih m' (by omega) r hr)
   injection e0 with e0; subst e0
   injection e1 with e1; subst e1
   refine ⟨⟨i, xs⟩, by rw [row_Node_eq, sz24], ?_⟩
   rw [wdN, decide_eq_true hl, wdL_all hx]; rfl
theorem primOk : PrimOk Try.prog GL H := PrimOk.none fun f => hOf_pr (by kernel_rfl)
end Go.AM.S02

namespace Go.AM.S02
open Go Go.Proofs Go.AM
set_option linter.unusedVariables false
end Go.AM.S02

namespace Go.AM.S02
open Go Go.Proofs Go.AM
theorem wt22 {n : Nat} {cs : List PV} (h : wt T n 22 cs) : ∃ xs : List Node, cs = [.sl none 2 (xs.map row_Node)] ∧ xs.length < 9223372036854775808 ∧ wdL xs = true := by
 obtain ⟨xs, e, hl, hx⟩ := wt_slM (row := row_Node) (P := fun x => wdN x = true) d22 h (fun m r _ hr => wt24 m r hr)
 exact ⟨xs, by rw [e, sz24], hl, wdL_all hx⟩
end Go.AM.S02

namespace Go.AM.S02
open Go Go.Proofs Go.AM
set_option linter.unusedVariables false
mutual
theorem d_le : ∀ x : Node, dN x ≤ nsN x
 | .mk s k => by rw [dN, nsN]; exact dL_le k
theorem dL_le : ∀ l : List Node, dL l ≤ nsL l
 | [] => by rw [dL, nsL]; exact Nat.le_refl _
 | x :: r => by rw [dL, nsL]; have := d_le x; have := dL_le r; omega
end
end Go.AM.S02

namespace Go.AM.S02
open Go Go.Proofs Go.AM
set_option linter.unusedVariables false
theorem hsame_refl : ∀ (n : Nat) (h : List Node), dL h < n → nsL h ≤ 1000000 → ref02_Same n h h = some true := by
 intro n
 induction n with
 | zero => intro t hd; omega
 | succ n ih =>
  intro h hd hs
  have := len_ns h
  rw [ref02_Same, if_pos rfl, rangeL, if_pos (by omega)]
  suffices H : ∀ (l p : List Node), h = p ++ l → dL l < n + 1 → nsL l ≤ 1000000 → rangeC (fun i1 (x1 : Node) (s1 : Unit) n1 => (h[i1]?).bind fun v1 => if x1.Label = v1.Label then (ref02_Same n x1.Kids v1.Kids).bind fun v2 => if v2 = true then n1 () else some false else some false) l p.length () (fun _ => some true) = some true from H h [] rfl hd (by omega)
  intro l
  induction l with
  | nil => intro p _ _ _; rw [rangeC]
  | cons x r ihr =>
   intro p e h1 h2
   obtain ⟨d1, d2⟩ := dL_cons h1
   rw [nsL_cons] at h2
   have hx : h[p.length]? = some x := by rw [e, List.getElem?_append_right (Nat.le_refl _), Nat.sub_self]; rfl
   rw [rangeC, hx]
   simp only [Option.bind_some, if_true]
   rw [ih x.Kids d1 (by omega)]
   simp only [Option.bind_some, if_true]
   have := ihr (p ++ [x]) (by rw [e]; simp) d2 (by omega)
   rw [List.length_append] at this
   exact this
theorem vld_le {a : Int} {h : List Node} (c : vld a h = true) : (1 ≤ a ∧ a ≤ 8) ∧ nsL h ≤ 300 ∧ labL a h = true := by
 unfold vld at c
 simp only [Bool.and_eq_true, decide_eq_true_eq] at c
 exact ⟨c.1, by omega, c.2.2⟩
mutual
theorem wdN_of : ∀ x : Node, nsN x < 9223372036854775808 → wdN x = true
 | .mk l k, h => by
  rw [nsN] at h
  have := len_ns k
  rw [wdN, decide_eq_true (by omega), wdL_of k h]; rfl
theorem wdL_of : ∀ l : List Node, nsL l < 9223372036854775808 → wdL l = true
 | [], _ => by rw [wdL]
 | x :: r, h => by
  rw [nsL] at h
  rw [wdL, wdN_of x (by omega), wdL_of r (by omega)]; rfl
end
end Go.AM.S02

namespace Go.AM.S02
open Go Go.Proofs Go.AM
theorem sz39 : (T.at 39).size = 1 := rfl
theorem sz41 : (T.at 41).size = 2 := rfl
end Go.AM.S02

namespace Go.AM.S02
open Go Go.Proofs Go.AM
set_option linter.unusedVariables false
set_option maxRecDepth 100000
def isL (v : Int) : Bool := (decide (97 ≤ v) && decide (v ≤ 122)) || (decide (65 ≤ v) && decide (v ≤ 90))
def isD (v : Int) : Bool := decide (48 ≤ v) && decide (v ≤ 57)
theorem letter_eq (v : Int) : tree_letter v = some (isL v) := by
 unfold tree_letter isL
 repeat' split
 all_goals simp_all
 all_goals first | done | (intros; omega) | (constructor <;> intros <;> omega)
theorem rletter_eq (v : Int) : ref01_letter v = some (isL v) := by
 unfold ref01_letter isL
 repeat' split
 all_goals simp_all
 all_goals first | done | (intros; omega) | (constructor <;> intros <;> omega)
theorem digit_eq (v : Int) : tree_digit v = some (isD v) := by
 unfold tree_digit isD
 split <;> simp_all
 all_goals first | done | (intros; omega)
theorem rdigit_eq (v : Int) : ref01_digit v = some (isD v) := by
 unfold ref01_digit isD
 split <;> simp_all
 all_goals first | done | (intros; omega)
def isLD (v : UInt8) : Bool := isL (v.toNat : Int) || isD (v.toNat : Int)
def wrd : Str → Str
 | [] => []
 | a :: q => if isL (a.toNat : Int) = true then a :: q.takeWhile isLD else []
def nameB (s : Str) : Bool := decide (s ≠ []) && (decide (s.length ≤ 12) && decide (wrd s = s))
theorem idx_at {s pre suf : Str} {v : UInt8} (e : s = pre ++ v :: suf) : idx s (pre.length : Int) = some v := by
 unfold idx; rw [if_pos (by omega), Int.toNat_natCast, e, List.getElem?_append_right (Nat.le_refl _), Nat.sub_self]; rfl
theorem word_loop {R : Type} (K : Int → Option R) (s : Str) (hs : s.length ≤ 9000000) : ∀ (suf pre : Str) (j : Nat), s = pre ++ suf → 1 ≤ pre.length → suf.length < j → whileC (fun (s1 : Int) n1 => if s1 < (s.length : Int) then (idx s s1).bind fun v1 => (ref01_letter (v1.toNat : Int)).bind fun v2 => if v2 = true then n1 (w64 (s1 + 1)) else if 0 < s1 then (ref01_digit (v1.toNat : Int)).bind fun v3 => if v3 = true then n1 (w64 (s1 + 1)) else K s1 else K s1 else K s1) j (pre.length : Int) = K ((pre.length : Int) + (suf.takeWhile isLD).length) := by
 intro suf
 induction suf with
 | nil =>
  intro pre j e h1 h2
  match j, h2 with
  | j + 1, _ =>
   rw [whileC]
   have : s.length = pre.length := by rw [e]; simp
   rw [if_neg (by omega)]; simp
 | cons v suf ih =>
  intro pre j e h1 h2
  match j, h2 with
  | j + 1, h2 =>
   have hlen : s.length = pre.length + (suf.length + 1) := by rw [e]; simp
   rw [whileC, if_pos (by omega), idx_at e]
   simp only [Option.bind_some]
   rw [rletter_eq, rdigit_eq]
   simp only [Option.bind_some]
   have next := ih (pre ++ [v]) j (by rw [e]; simp) (by simp) (by simp only [List.length_cons] at h2; omega)
   rw [List.length_append] at next
   have hw : w64 ((pre.length : Int) + 1) = ((pre.length + [v].length : Nat) : Int) := by rw [w64_eq (by omega) (by omega)]; simp
   by_cases l1 : isL (v.toNat : Int) = true
   ·rw [if_pos l1, hw, next, List.takeWhile_cons, if_pos (by unfold isLD; rw [l1]; rfl)]
    congr 1; simp only [List.length_cons, List.length_nil]; omega
   ·rw [if_neg l1, if_pos (by omega)]
    by_cases l2 : isD (v.toNat : Int) = true
    ·rw [if_pos l2, hw, next, List.takeWhile_cons, if_pos (by unfold isLD; rw [l2]; simp)]
     congr 1; simp only [List.length_cons, List.length_nil]; omega
    ·rw [if_neg l2, List.takeWhile_cons, if_neg (by unfold isLD; simp [l1, l2])]; simp
theorem word_eq {n : Nat} (s : Str) (hs : s.length ≤ 9000000) (hn : s.length + 1 < n) : ref01_Word n s = some ((wrd s).length : Int) := by
 unfold ref01_Word
 rw [whileL]
 obtain ⟨m, rfl⟩ : ∃ m, n = m + 1 := ⟨n - 1, by omega⟩
 cases s with
 | nil => rw [whileC, if_neg (by simp)]; rfl
 | cons a q =>
  have h0 : idx (a :: q) 0 = some a := rfl
  rw [whileC, if_pos (by simp only [List.length_cons]; omega), h0]
  simp only [Option.bind_some]
  rw [rletter_eq]
  simp only [Option.bind_some]
  rw [wrd]
  by_cases l1 : isL (a.toNat : Int) = true
  ·rw [if_pos l1, if_pos l1]
   have := word_loop (fun s1 => some s1) (a :: q) hs q [a] m rfl (by simp) (by simp only [List.length_cons] at hn; omega)
   rw [show w64 (0 + 1) = (([a] : Str).length : Int) from rfl, this]
   congr 1
   simp only [List.length_cons, List.length_nil]; omega
  ·rw [if_neg l1, if_neg l1, if_neg (by omega)]; rfl
theorem take_all (p : UInt8 → Bool) : ∀ l : Str, (l.takeWhile p).length = l.length ↔ l.takeWhile p = l
 | [] => by simp
 | a :: l => by
  rw [List.takeWhile_cons]
  split
  ·simp only [List.length_cons, Nat.add_right_cancel_iff, List.cons.injEq, true_and]; exact take_all p l
  ·simp
theorem wrd_all (s : Str) : (wrd s).length = s.length ↔ wrd s = s := by
 cases s with
 | nil => simp [wrd]
 | cons a q =>
  rw [wrd]
  split
  ·simp only [List.length_cons, Nat.add_right_cancel_iff, List.cons.injEq, true_and]; exact take_all _ q
  ·simp
theorem rname_eq {n : Nat} (hn : 20 ≤ n) (s : Str) : ref01_Name n s = some (nameB s) := by
 unfold ref01_Name nameB
 by_cases c0 : s = []
 ·rw [if_pos c0, decide_eq_false (by simpa using c0)]; rfl
 rw [if_neg c0, decide_eq_true (by simpa using c0)]
 by_cases c1 : (s.length : Int) ≤ 12
 ·rw [if_pos c1, word_eq s (by omega) (by omega), Option.bind_some, decide_eq_true (by omega : s.length ≤ 12)]
  simp only [Bool.true_and]
  congr 1
  rw [Bool.eq_iff_iff, decide_eq_true_eq, ← wrd_all, beq_iff_eq]
  omega
 ·rw [if_neg c1, decide_eq_false (by omega : ¬ s.length ≤ 12)]; rfl
theorem name_loop (s : Str) : ∀ (suf pre : Str), s = pre ++ suf → rangeC (fun i1 (_ : Unit) (s1 : Unit) n1 => (s[i1]?).bind fun v3 => (tree_letter (v3.toNat : Int)).bind fun v4 => if v4 = true then n1 () else (tree_digit (v3.toNat : Int)).bind fun v5 => if v5 = true then n1 () else some false) (List.replicate suf.length ()) pre.length () (fun _ => some true) = some (decide ((suf.takeWhile isLD).length = suf.length)) := by
 intro suf
 induction suf with
 | nil => intro pre e; rfl
 | cons v suf ih =>
  intro pre e
  have hv : s[pre.length]? = some v := by rw [e, List.getElem?_append_right (Nat.le_refl _), Nat.sub_self]; rfl
  rw [List.length_cons, List.replicate_succ, rangeC, hv]
  simp only [Option.bind_some]
  rw [letter_eq, digit_eq]
  simp only [Option.bind_some]
  have next := ih (pre ++ [v]) (by rw [e]; simp)
  rw [List.length_append] at next
  by_cases l1 : isL (v.toNat : Int) = true
  ·rw [if_pos l1, List.takeWhile_cons, if_pos (by unfold isLD; rw [l1]; rfl)]
   refine next.trans ?_
   congr 1; exact decide_eq_decide.2 (by simp)
  ·rw [if_neg l1]
   by_cases l2 : isD (v.toNat : Int) = true
   ·rw [if_pos l2, List.takeWhile_cons, if_pos (by unfold isLD; rw [l2]; simp)]
    refine next.trans ?_
    congr 1; exact decide_eq_decide.2 (by simp)
   ·rw [if_neg l2, List.takeWhile_cons, if_neg (by unfold isLD; simp [l1, l2])]
    simp
theorem tname_eq (s : Str) : tree_Name s = some (nameB s) := by
 unfold tree_Name nameB
 by_cases c0 : s = []
 ·rw [if_pos c0, decide_eq_false (by simpa using c0)]; rfl
 rw [if_neg c0, decide_eq_true (by simpa using c0)]
 by_cases c1 : 12 < (s.length : Int)
 ·rw [if_pos c1, decide_eq_false (by omega : ¬ s.length ≤ 12)]; rfl
 rw [if_neg c1, decide_eq_true (by omega : s.length ≤ 12)]
 simp only [Bool.true_and]
 cases s with
 | nil => exact absurd rfl c0
 | cons a q =>
  simp only [List.getElem?_cons_zero, Option.bind_some]
  rw [letter_eq]
  simp only [Option.bind_some]
  rw [wrd]
  by_cases l1 : isL (a.toNat : Int) = true
  ·rw [if_pos l1, if_pos l1, rangeI, if_pos (by omega)]
   have := name_loop (a :: q) (a :: q) [] rfl
   rw [Int.toNat_natCast]
   refine this.trans ?_
   congr 1
   refine decide_eq_decide.2 ?_
   rw [take_all, List.takeWhile_cons, if_pos (by unfold isLD; rw [l1]; rfl)]
  ·rw [if_neg l1, if_neg l1]
   simp
def ixS : List Str → Str → Nat → Int
 | [], _, _ => -1
 | x :: l, w, i => if w = x then (i : Int) else ixS l w (i + 1)
theorem index_eq (l : List Str) (w : Str) (hl : l.length < 9223372036854775808) : slices_Index_Lstring_string l w = some (ixS l w 0) := by
 unfold slices_Index_Lstring_string
 rw [rangeL, if_pos hl]
 generalize 0 = i
 induction l generalizing i with
 | nil => rfl
 | cons x l ih =>
  rw [rangeC, ixS]
  split
  ·rfl
  ·exact ih (by simp only [List.length_cons] at hl; omega) (i + 1)
theorem place_eq (l : List Str) (w : Str) (hl : l.length < 9223372036854775808) : ref01_Place l w = some (ixS l w 0) := by
 unfold ref01_Place
 rw [rangeL, if_pos hl]
 generalize 0 = i
 induction l generalizing i with
 | nil => rfl
 | cons x l ih =>
  rw [rangeC, ixS]
  by_cases c : x = w
  ·rw [if_pos c, if_pos c.symm]
  ·rw [if_neg c, if_neg (fun e => c e.symm)]
   exact ih (by simp only [List.length_cons] at hl; omega) (i + 1)
def nmC (all : List Str) : List Str → Nat → Bool
 | [], _ => true
 | x :: l, i => if nameB x = true then (if 0 ≤ ixS (all.take i) x 0 then false else nmC all l (i + 1)) else false
def nmB (l : List Str) (a : Int) : Bool := decide ((l.length : Int) = a) && nmC l l 0
theorem names_eq (l : List Str) (a : Int) (hl : l.length ≤ 1000) : tree_Names l a = some (nmB l a) := by
 unfold tree_Names nmB
 by_cases c : (l.length : Int) = a
 ·rw [if_pos c, decide_eq_true c, Bool.true_and, rangeL, if_pos (by omega)]
  suffices H : ∀ (q : List Str) (i : Nat), i + q.length ≤ l.length → rangeC (fun i1 x1 (s1 : Unit) n1 =>
   (tree_Name x1).bind fun v1 =>
   if v1 = true then
    (slcT l (i1 : Int)).bind fun v2 =>
    (slices_Contains_Lstring_string v2 x1).bind fun v3 =>
    if v3 = true then
     some false
    else
     n1 ()
   else
    some false) q i () (fun s1 => some true) = some (nmC l q i) from H l 0 (by omega)
  intro q
  induction q with
  | nil => intro i _; rfl
  | cons x q ih =>
   intro i hi
   simp only [List.length_cons] at hi
   rw [rangeC, tname_eq, Option.bind_some, nmC]
   split
   ·have : slcT l (i : Int) = some (l.take i) := by unfold slcT; rw [if_pos (by omega), Int.toNat_natCast]
    rw [this, Option.bind_some]
    unfold slices_Contains_Lstring_string
    rw [index_eq _ _ (by rw [List.length_take]; omega)]
    simp only [Option.bind_some]
    by_cases d : 0 ≤ ixS (l.take i) x 0
    ·rw [if_pos (decide_eq_true d), if_pos d]
    ·rw [if_neg (by rw [decide_eq_false d]; decide), if_neg d]; exact ih (i + 1) (by omega)
   ·rfl
 ·rw [if_neg c, decide_eq_false c]; rfl
theorem rnames_eq {n : Nat} (hn : 20 ≤ n) (l : List Str) (a : Int) (hl : l.length ≤ 1000) : ref01_Names n l a = some (nmB l a) := by
 unfold ref01_Names nmB
 by_cases c : (l.length : Int) = a
 ·rw [if_pos c, decide_eq_true c, Bool.true_and, rangeL, if_pos (by omega)]
  suffices H : ∀ (q : List Str) (i : Nat), i + q.length ≤ l.length → rangeC (fun i1 x1 (s1 : Unit) n1 =>
   (ref01_Name n x1).bind fun v1 =>
   if v1 = true then
    (slcT l (i1 : Int)).bind fun v2 =>
    (ref01_Place v2 x1).bind fun v3 =>
    if 0 ≤ v3 then
     some false
    else
     n1 ()
   else
    some false) q i () (fun s1 => some true) = some (nmC l q i) from H l 0 (by omega)
  intro q
  induction q with
  | nil => intro i _; rfl
  | cons x q ih =>
   intro i hi
   simp only [List.length_cons] at hi
   rw [rangeC, rname_eq hn, Option.bind_some, nmC]
   split
   ·have : slcT l (i : Int) = some (l.take i) := by unfold slcT; rw [if_pos (by omega), Int.toNat_natCast]
    rw [this, Option.bind_some, place_eq _ _ (by rw [List.length_take]; omega)]
    simp only [Option.bind_some]
    by_cases d : 0 ≤ ixS (l.take i) x 0
    ·rw [if_pos d, if_pos d]
    ·rw [if_neg d, if_neg d]; exact ih (i + 1) (by omega)
   ·rfl
 ·rw [if_neg c, decide_eq_false c]; rfl
theorem ixS_bd : ∀ (l : List Str) (w : Str) (i : Nat), ixS l w i = -1 ∨ ∃ j x, ixS l w i = ((i + j : Nat) : Int) ∧ l[j]? = some x ∧ w = x
 | [], _, _ => .inl rfl
 | x :: l, w, i => by
  rw [ixS]
  split
  ·rename_i h; exact .inr ⟨0, x, by simp, rfl, h⟩
  ·rcases ixS_bd l w (i + 1) with h | ⟨j, y, h1, h2, h3⟩
   ·exact .inl h
   ·exact .inr ⟨j + 1, y, by rw [h1]; congr 1; omega, by simpa using h2, h3⟩
theorem ixS_mem : ∀ (l : List Str) (w : Str) (i : Nat), w ∈ l → 0 ≤ ixS l w i
 | x :: l, w, i, h => by
  rw [ixS]
  split
  ·omega
  ·rename_i c
   rcases List.mem_cons.1 h with rfl | h
   ·exact absurd rfl c
   ·exact ixS_mem l w (i + 1) h
theorem nmC_out (all : List Str) : ∀ (l : List Str) (i : Nat), all.drop i = l → nmC all l i = true → ∀ (j : Nat) x, i ≤ j → all[j]? = some x → nameB x = true ∧ x ∉ all.take j
 | [], i, hd, _, j, x, hij, hx => by
  have : all.length ≤ i := List.drop_eq_nil_iff.1 hd
  rw [List.getElem?_eq_none (by omega)] at hx; cases hx
 | y :: l, i, hd, h, j, x, hij, hx => by
  have hi : i < all.length := by
   rcases Nat.lt_or_ge i all.length with h | h
   ·exact h
   ·rw [List.drop_eq_nil_of_le h] at hd; cases hd
  rw [List.drop_eq_getElem_cons hi] at hd
  injection hd with hd1 hd2
  rw [nmC] at h
  split at h
  ·rename_i hn
   split at h
   ·cases h
   ·rename_i hix
    by_cases e : i = j
    ·subst e
     rw [List.getElem?_eq_getElem hi] at hx
     injection hx with hx
     rw [← hx, hd1]
     exact ⟨hn, fun hm => hix (ixS_mem _ _ _ hm)⟩
    ·exact nmC_out all l (i + 1) hd2 h j x (by omega) hx
  ·cases h
theorem ixS_at : ∀ (l : List Str) (i j : Nat) (x : Str), l[j]? = some x → x ∉ l.take j → ixS l x i = ((i + j : Nat) : Int)
 | [], i, j, x, h, _ => by simp at h
 | y :: l, i, 0, x, h, _ => by simp at h; subst h; rw [ixS, if_pos rfl]; rfl
 | y :: l, i, j + 1, x, h, hn => by
  rw [List.take_succ_cons, List.mem_cons] at hn
  rw [ixS, if_neg (fun e => hn (.inl e)), ixS_at l (i + 1) j x (by simpa using h) (fun hm => hn (.inr hm))]
  congr 1; omega
theorem nm_out {l : List Str} {a : Int} (h : nmB l a = true) : (l.length : Int) = a ∧ (∀ (j : Nat) x, l[j]? = some x → nameB x = true ∧ ixS l x 0 = (j : Int)) := by
 unfold nmB at h
 rw [Bool.and_eq_true, decide_eq_true_eq] at h
 refine ⟨h.1, fun j x hx => ?_⟩
 obtain ⟨h1, h2⟩ := nmC_out l l 0 rfl h.2 j x (Nat.zero_le _) hx
 exact ⟨h1, by rw [ixS_at l 0 j x hx h2]; congr 1; omega⟩
end Go.AM.S02

namespace Go.AM.S02
open Go Go.Proofs Go.AM
set_option linter.unusedVariables false
set_option maxRecDepth 100000
set_option maxHeartbeats 4000000
def skp (s : Str) : Str := s.dropWhile fun c => c == 32
theorem skp_nil : skp [] = [] := rfl
theorem skp_cons (c : UInt8) (r : Str) : skp (c :: r) = if c = 32 then skp r else c :: r := by
 unfold skp
 rw [List.dropWhile_cons]
 by_cases h : c = 32
 ·rw [if_pos h, if_pos (by simpa using h)]
 ·rw [if_neg h, if_neg (by simpa using h)]
theorem skp_len (s : Str) : (skp s).length ≤ s.length := by
 induction s with
 | nil => exact Nat.le_refl _
 | cons c r ih =>
  rw [skp_cons]
  split
  ·simp only [List.length_cons]; omega
  ·exact Nat.le_refl _
theorem skp_skp (s : Str) : skp (skp s) = skp s := by
 induction s with
 | nil => rfl
 | cons c r ih =>
  rw [skp_cons]
  split
  ·exact ih
  ·rename_i h; rw [skp_cons, if_neg h]
def Sf (t s : Str) : Prop := ∃ p, t = p ++ s
theorem Sf.refl (t : Str) : Sf t t := ⟨[], rfl⟩
theorem Sf.trans {a b c : Str} (h : Sf a b) (k : Sf b c) : Sf a c := by
 obtain ⟨p, rfl⟩ := h
 obtain ⟨q, rfl⟩ := k
 exact ⟨p ++ q, by rw [List.append_assoc]⟩
theorem Sf.len {t s : Str} (h : Sf t s) : s.length ≤ t.length := by obtain ⟨p, rfl⟩ := h; simp
theorem Sf.tail {c : UInt8} {r : Str} : Sf (c :: r) r := ⟨[c], rfl⟩
theorem Sf.skp (s : Str) : Sf s (skp s) := ⟨_, (List.takeWhile_append_dropWhile (p := fun c => c == 32) (l := s)).symm⟩
theorem Sf.ld (s : Str) : Sf s (s.dropWhile isLD) := ⟨_, (List.takeWhile_append_dropWhile (p := isLD) (l := s)).symm⟩
def pos (t s : Str) : Int := ((t.length - s.length : Nat) : Int)
theorem pos_cons {t : Str} {c : UInt8} {r : Str} (h : Sf t (c :: r)) : pos t (c :: r) < (t.length : Int) ∧ idx t (pos t (c :: r)) = some c ∧ pos t (c :: r) + 1 = pos t r := by
 obtain ⟨p, rfl⟩ := h
 have e : pos (p ++ c :: r) (c :: r) = (p.length : Int) := by unfold pos; rw [List.length_append]; congr 1; omega
 rw [e]
 refine ⟨by simp only [List.length_append, List.length_cons]; omega, idx_at rfl, ?_⟩
 unfold pos; simp only [List.length_append, List.length_cons]; omega
theorem pos_nil (t : Str) : pos t [] = (t.length : Int) := rfl
theorem pos_bd (t s : Str) : 0 ≤ pos t s ∧ pos t s ≤ (t.length : Int) := by unfold pos; omega
theorem chr {c : UInt8} {k : Nat} (hk : k < 256) : ((c.toNat : Nat) : Int) = (k : Int) ↔ c = UInt8.ofNat k := by
 constructor
 ·intro h
  have : c.toNat = k := by omega
  apply UInt8.toNat.inj
  rw [this]
  simp; omega
 ·intro h; subst h
  simp; omega
theorem chr32 {c : UInt8} : ((c.toNat : Nat) : Int) = 32 ↔ c = 32 := chr (k := 32) (by omega)
theorem chr40 {c : UInt8} : ((c.toNat : Nat) : Int) = 40 ↔ c = 40 := chr (k := 40) (by omega)
theorem chr41 {c : UInt8} : ((c.toNat : Nat) : Int) = 41 ↔ c = 41 := chr (k := 41) (by omega)
theorem chr0 {c : UInt8} : ((c.toNat : Nat) : Int) = 0 ↔ c = 0 := chr (k := 0) (by omega)
theorem skip_loop {R : Type} (t : Str) (ht : t.length ≤ 9000000) (K : Int → Option R) : ∀ (s : Str) (m : Nat), Sf t s → s.length < m → whileC (fun (s1 : Int) n1 =>
 if s1 < (t.length : Int) then
  (idx t s1).bind fun v1 =>
  if (v1.toNat : Int) = 32 then
   n1 (w64 (s1 + 1))
  else
   K s1
 else
  K s1) m (pos t s) = K (pos t (skp s))
 | s, 0, _, h => by omega
 | [], m + 1, _, _ => by rw [whileC, pos_nil, if_neg (by omega), skp_nil, pos_nil]
 | c :: r, m + 1, hs, h => by
  obtain ⟨h1, h2, h3⟩ := pos_cons hs
  have hb := pos_bd t (c :: r)
  rw [whileC, if_pos h1, h2, Option.bind_some, skp_cons]
  by_cases e : c = 32
  ·rw [if_pos (chr32.2 e), if_pos e, w64_eq (by omega) (by omega), h3]
   exact skip_loop t ht K r m (hs.trans .tail) (by simpa using h)
  ·rw [if_neg (fun q => e (chr32.1 q)), if_neg e]
theorem skip_eq {t s : Str} (ht : t.length ≤ 9000000) {n : Nat} (hs : Sf t s) (hn : s.length < n) : ∃ b, tree_Reader_Skip n ⟨t, pos t s⟩ = some (b, ⟨t, pos t (skp s)⟩) := by
 unfold tree_Reader_Skip
 rw [whileL]
 exact ⟨_, skip_loop t ht (fun s1 => some (decide (pos t s < s1), (tree_Reader.mk t s1))) s n hs hn⟩
def hd0 : Str → Int
 | [] => 0
 | c :: _ => (c.toNat : Int)
theorem next_eq {t s : Str} (ht : t.length ≤ 9000000) {n : Nat} (hs : Sf t s) (hn : s.length < n) : tree_Reader_Next n ⟨t, pos t s⟩ = some (hd0 (skp s), ⟨t, pos t (skp s)⟩) := by
 obtain ⟨b, e⟩ := skip_eq ht hs hn
 unfold tree_Reader_Next
 rw [e, Option.bind_some]
 have hq := hs.trans (.skp s)
 revert hq
 generalize skp s = q
 intro hq
 dsimp only
 cases q with
 | nil => rw [pos_nil, if_pos rfl]; rfl
 | cons c r =>
  obtain ⟨h1, h2, h3⟩ := pos_cons hq
  rw [if_neg (by omega), h2]; rfl
theorem is_eq {t s : Str} (ht : t.length ≤ 9000000) {n : Nat} (hs : Sf t s) (hn : s.length < n) (k : Nat) (hk : k < 256) : tree_Reader_Is n ⟨t, pos t s⟩ (k : Int) = some (match skp s with
 | [] => (false, ⟨t, pos t []⟩)
 | c :: r => if c = UInt8.ofNat k then (true, ⟨t, pos t r⟩) else (false, ⟨t, pos t (c :: r)⟩)) := by
 obtain ⟨b, e⟩ := skip_eq ht hs hn
 unfold tree_Reader_Is
 rw [e, Option.bind_some]
 have hq := hs.trans (.skp s)
 revert hq
 generalize skp s = q
 intro hq
 dsimp only
 cases q with
 | nil => rw [pos_nil, if_neg (by omega)]
 | cons c r =>
  obtain ⟨h1, h2, h3⟩ := pos_cons hq
  have hb := pos_bd t (c :: r)
  rw [if_pos h1, h2, Option.bind_some]
  dsimp only
  by_cases c1 : c = UInt8.ofNat k
  ·rw [if_pos ((chr hk).2 c1), if_pos c1, w64_eq (by omega) (by omega), h3]
  ·rw [if_neg (fun q => c1 ((chr hk).1 q)), if_neg c1]
theorem take_eq' {t s : Str} (ht : t.length ≤ 9000000) {n : Nat} (hs : Sf t s) (hn : s.length < n) (k : Nat) (hk : k < 256) : tree_Reader_Take n ⟨t, pos t s⟩ (k : Int) = some (match skp s with
 | [] => (none, ⟨t, pos t []⟩)
 | c :: r => if c = UInt8.ofNat k then (some (), ⟨t, pos t r⟩) else (none, ⟨t, pos t (c :: r)⟩)) := by
 unfold tree_Reader_Take
 rw [is_eq ht hs hn k hk, Option.bind_some]
 cases skp s with
 | nil => rfl
 | cons c r =>
  dsimp only
  by_cases c1 : c = UInt8.ofNat k
  ·simp only [if_pos c1]; rfl
  ·simp only [if_neg c1]; rfl
theorem ld_loop {R : Type} (t : Str) (ht : t.length ≤ 9000000) (K : Int → Option R) : ∀ (s : Str) (m : Nat), Sf t s → s.length < m → whileC (fun (s1 : Int) n1 =>
 if s1 < (t.length : Int) then
  (idx t s1).bind fun v4 =>
  (tree_letter (v4.toNat : Int)).bind fun v5 =>
  if v5 = true then
   n1 (w64 (s1 + 1))
  else
   (tree_digit (v4.toNat : Int)).bind fun v6 =>
   if v6 = true then
    n1 (w64 (s1 + 1))
   else
    K s1
 else
  K s1) m (pos t s) = K (pos t (s.dropWhile isLD))
 | s, 0, _, h => by omega
 | [], m + 1, _, _ => by rw [whileC, pos_nil, if_neg (by omega)]; rfl
 | c :: r, m + 1, hs, h => by
  obtain ⟨h1, h2, h3⟩ := pos_cons hs
  have hb := pos_bd t (c :: r)
  have ih := ld_loop t ht K r m (hs.trans .tail) (by simpa using h)
  rw [whileC, if_pos h1, h2, Option.bind_some, letter_eq, Option.bind_some, digit_eq, Option.bind_some, List.dropWhile_cons, w64_eq (by omega) (by omega), h3]
  by_cases l1 : isL (c.toNat : Int) = true
  ·rw [if_pos l1, if_pos (by unfold isLD; rw [l1]; rfl)]; exact ih
  ·rw [if_neg l1]
   by_cases l2 : isD (c.toNat : Int) = true
   ·rw [if_pos l2, if_pos (by unfold isLD; rw [l2]; simp)]; exact ih
   ·rw [if_neg l2, if_neg (by unfold isLD; simp [l1, l2])]
theorem slc_pos {t s q w : Str} (h : Sf t s) (hw : s = w ++ q) : slc t (pos t s) (pos t q) = some w := by
 obtain ⟨p, rfl⟩ := h
 subst hw
 have e1 : pos (p ++ (w ++ q)) (w ++ q) = (p.length : Int) := by unfold pos; rw [List.length_append]; congr 1; omega
 have e2 : pos (p ++ (w ++ q)) q = ((p.length + w.length : Nat) : Int) := by unfold pos; rw [List.length_append, List.length_append]; congr 1; omega
 rw [e1, e2]
 unfold slc
 rw [if_pos (by simp only [List.length_append]; omega)]
 congr 1
 rw [Int.toNat_natCast, Int.toNat_natCast, ← List.append_assoc, show p.length + w.length = (p ++ w).length by simp, List.take_left, List.drop_left]
theorem rname_at {t s : Str} (ht : t.length ≤ 9000000) {n : Nat} (hs : Sf t s) (hn : s.length < n) : tree_Reader_Name n ⟨t, pos t s⟩ = some (if nameB ((skp s).takeWhile isLD) = true then some ((skp s).takeWhile isLD) else none, ⟨t, pos t ((skp s).dropWhile isLD)⟩) := by
 obtain ⟨b, e⟩ := skip_eq ht hs hn
 have hq := hs.trans (.skp s)
 have hl := skp_len s
 unfold tree_Reader_Name
 rw [e, Option.bind_some, whileL]
 dsimp only
 rw [ld_loop t ht _ (skp s) n hq (by omega), slc_pos hq (List.takeWhile_append_dropWhile (p := isLD)).symm, Option.bind_some, tname_eq, Option.bind_some]
 split <;> rfl
end Go.AM.S02

namespace Go.AM.S02
open Go Go.Proofs Go.AM
set_option linter.unusedVariables false
set_option maxRecDepth 100000
set_option maxHeartbeats 4000000
def PL (names : List Str) : Nat → Str → List Node → Option (List Node × Str)
 | 0, _, _ => none
 | f + 1, q, acc => match q with
  | [] => some (acc, [])
  | c :: q' => if c = 0 ∨ c = 41 then some (acc, c :: q') else
   if nameB ((c :: q').takeWhile isLD) = true ∧ 0 ≤ ixS names ((c :: q').takeWhile isLD) 0 then
    match skp ((c :: q').dropWhile isLD) with
    | [] => PL names f [] (acc ++ [⟨ixS names ((c :: q').takeWhile isLD) 0, []⟩])
    | d :: r => if d = 40 then
     match PL names f (skp r) [] with
     | some (kids, e :: r2) => if e = 41 then PL names f (skp r2) (acc ++ [⟨ixS names ((c :: q').takeWhile isLD) 0, kids⟩]) else none
     | _ => none
     else PL names f (d :: r) (acc ++ [⟨ixS names ((c :: q').takeWhile isLD) 0, []⟩])
   else none
theorem Sf_len_dw (c : UInt8) (q : Str) (h : nameB ((c :: q).takeWhile isLD) = true) : ((c :: q).dropWhile isLD).length ≤ q.length := by
 rw [List.dropWhile_cons]
 split
 ·exact (Sf.ld q).len
 ·rename_i hc
  rw [List.takeWhile_cons, if_neg hc] at h
  simp [nameB] at h
theorem PL_out (names : List Str) : ∀ (f : Nat) (q : Str) (acc h : List Node) (r : Str), PL names f q acc = some (h, r) → Sf q r ∧ (r = [] ∨ ∃ c r', r = c :: r' ∧ (c = 0 ∨ c = 41)) ∧ nsL h + r.length ≤ nsL acc + q.length := by
 have nsA : ∀ (l : List Node) (x : Node), nsL (l ++ [x]) = nsL l + 1 + nsL x.Kids := by
  intro l x
  induction l with
  | nil => rw [List.nil_append, nsL_cons, nsL]; omega
  | cons y l ih => rw [List.cons_append, nsL_cons, nsL_cons, ih]; omega
 intro f
 induction f with
 | zero => intro q acc h r e; rw [PL] at e; cases e
 | succ f ih =>
  intro q acc h r e
  cases q with
  | nil => simp only [PL] at e; injection e with e; injection e with e1 e2; subst e1; subst e2; exact ⟨.refl _, .inl rfl, Nat.le_refl _⟩
  | cons c q =>
   simp only [PL] at e
   split at e
   ·rename_i hc
    injection e with e; injection e with e1 e2; subst e1; subst e2; exact ⟨.refl _, .inr ⟨c, q, rfl, hc⟩, Nat.le_refl _⟩
   ·split at e
    ·rename_i hn
     have hl := Sf_len_dw c q hn.1
     have hs := (Sf.ld (c :: q)).trans (.skp _)
     have hk := skp_len ((c :: q).dropWhile isLD)
     revert e hs hk
     generalize skp ((c :: q).dropWhile isLD) = u
     intro e hs hk
     cases u with
     | nil =>
      dsimp only at e
      obtain ⟨a1, a2, a3⟩ := ih _ _ _ _ e
      rw [nsA] at a3
      refine ⟨hs.trans a1, a2, ?_⟩
      simp only [List.length_cons, List.length_nil, nsL] at a3 ⊢; omega
     | cons d r1 =>
      dsimp only at e
      split at e
      ·split at e
       ·rename_i kids e1 r2 hp
        split at e
        ·obtain ⟨a1, a2, a3⟩ := ih _ _ _ _ e
         obtain ⟨b1, b2, b3⟩ := ih _ _ _ _ hp
         rw [nsA] at a3
         have k1 := skp_len r1
         have k2 := skp_len r2
         refine ⟨((((hs.trans .tail).trans (.skp r1)).trans b1).trans .tail).trans ((Sf.skp r2).trans a1), a2, ?_⟩
         simp only [List.length_cons, nsL] at a3 b3 hk ⊢; omega
        ·cases e
       ·cases e
      ·obtain ⟨a1, a2, a3⟩ := ih _ _ _ _ e
       rw [nsA] at a3
       refine ⟨hs.trans a1, a2, ?_⟩
       simp only [List.length_cons, List.length_nil, nsL] at a3 hk ⊢; omega
    ·cases e
def Rp (t : Str) (o : Option (Option (List Node) × tree_Reader)) : Option (List Node × Str) → Prop
 | none => ∃ x, o = some (none, x)
 | some (h, r) => o = some (some h, ⟨t, pos t r⟩)
theorem known_eq (l : List Str) (w : Str) (hl : l.length ≤ 1000) : tree_Known l w = some (if 0 ≤ ixS l w 0 then some (ixS l w 0) else none) := by
 unfold tree_Known
 rw [index_eq l w (by omega), Option.bind_some]
 by_cases c : 0 ≤ ixS l w 0
 ·rw [if_pos c, if_neg (by omega)]
 ·rw [if_neg c, if_pos (by omega)]
def LB (n : Nat) (names : List Str) (s1 : (List Node) × Int × Str × Int) (n1 : (List Node) × Int × Str × Int → Option (Option (List Node) × tree_Reader)) : Option (Option (List Node) × tree_Reader) :=
 if s1.2.1 = 0 then
  some (some s1.1, (tree_Reader.mk s1.2.2.1 s1.2.2.2))
 else
  if s1.2.1 = 41 then
   some (some s1.1, (tree_Reader.mk s1.2.2.1 s1.2.2.2))
  else
   (tree_Reader_Name n (tree_Reader.mk s1.2.2.1 s1.2.2.2)).bind fun v2 =>
   pn v2.1 (
    some (none, v2.2)) fun w1 =>
   (tree_Known names w1).bind fun v3 =>
   pn v3 (
    some (none, v2.2)) fun w2 =>
   (tree_Reader_Is n v2.2 40).bind fun v4 =>
   if v4.1 = true then
    (hedge_list n v4.2 names).bind fun v5 =>
    pn v5.1 (
     some (none, v5.2)) fun w3 =>
    (tree_Reader_Take n v5.2 41).bind fun v6 =>
    pn v6.1 (
     some (none, v6.2)) fun w4 =>
    (app 32 s1.1 [(Node.mk w2 w3)]).bind fun v7 =>
    (tree_Reader_Next n v6.2).bind fun v8 =>
    n1 (v7, v8.1, v8.2.text, v8.2.at_)
   else
    (app 32 s1.1 [(Node.mk w2 ([] : List Node))]).bind fun v9 =>
    (tree_Reader_Next n v4.2).bind fun v10 =>
    n1 (v9, v10.1, v10.2.text, v10.2.at_)
theorem list_unf (n : Nat) (a0 : tree_Reader) (names : List Str) : hedge_list (n + 1) a0 names = (tree_Reader_Next n a0).bind fun v1 => whileC (LB n names) n (([] : List Node), v1.1, v1.2.text, v1.2.at_) := rfl
def LP (t : Str) (names : List Str) (f : Nat) : Prop := ∀ (q : Str) (m n : Nat) (acc : List Node), Sf t q → skp q = q → q.length < f → q.length < m → q.length + 3 ≤ n → acc.length + q.length ≤ 100000 →
 Rp t (whileC (LB n names) m (acc, hd0 q, t, pos t q)) (PL names f q acc)
theorem list_of {t : Str} {names : List Str} (ht : t.length ≤ 90000) {f : Nat} (hB : LP t names f) {s : Str} (hs : Sf t s) (hf : s.length < f) {n : Nat} (hn : s.length + 4 ≤ n) : Rp t (hedge_list n ⟨t, pos t s⟩ names) (PL names f (skp s) []) := by
 obtain ⟨k, rfl⟩ : ∃ k, n = k + 1 := ⟨n - 1, by omega⟩
 have hl := skp_len s
 have hls := hs.len
 rw [list_unf, next_eq (by omega) hs (by omega), Option.bind_some]
 exact hB (skp s) k k [] (hs.trans (.skp s)) (skp_skp s) (by omega) (by omega) (by omega) (by simp; omega)
theorem list_loop {t : Str} {names : List Str} (ht : t.length ≤ 90000) (hN : names.length ≤ 1000) : ∀ f, LP t names f := by
 intro f
 induction f with
 | zero => intro q m n acc _ _ h; omega
 | succ f ih =>
  intro q m n acc hq hsk hf hm hn ha
  obtain ⟨k, rfl⟩ : ∃ k, m = k + 1 := ⟨m - 1, by omega⟩
  rw [whileC]
  generalize hnx : whileC (LB n names) k = nx
  unfold LB
  dsimp only
  subst hnx
  cases q with
  | nil => rw [if_pos (show hd0 [] = 0 from rfl)]; simp only [PL]; rfl
  | cons c q =>
   simp only [List.length_cons] at hf hm hn ha
   rw [show hd0 (c :: q) = (c.toNat : Int) from rfl]
   by_cases c0 : c = 0
   ·rw [if_pos (chr0.2 c0)]; simp only [PL, if_pos (Or.inl c0 : c = 0 ∨ c = 41)]; rfl
   rw [if_neg (fun e => c0 (chr0.1 e))]
   by_cases c1 : c = 41
   ·rw [if_pos (chr41.2 c1)]; simp only [PL, if_pos (Or.inr c1 : c = 0 ∨ c = 41)]; rfl
   rw [if_neg (fun e => c1 (chr41.1 e)), rname_at (by omega) hq (by simp only [List.length_cons]; omega), Option.bind_some, hsk]
   simp only [PL, if_neg (fun e => e.elim c0 c1 : ¬ (c = 0 ∨ c = 41))]
   by_cases c2 : nameB ((c :: q).takeWhile isLD) = true
   ·simp only [if_pos c2, pn]
    rw [known_eq _ _ hN, Option.bind_some]
    by_cases c3 : 0 ≤ ixS names ((c :: q).takeWhile isLD) 0
    ·simp only [if_pos c3, if_pos (And.intro c2 c3)]
     have hl := Sf_len_dw c q c2
     have hd := hq.trans (.ld (c :: q))
     have hs := hd.trans (.skp _)
     have hk := skp_len ((c :: q).dropWhile isLD)
     have hi := is_eq (t := t) (by omega) hd (n := n) (by omega) 40 (by omega)
     have hsk2 := skp_skp ((c :: q).dropWhile isLD)
     revert hs hk hi hsk2
     generalize skp ((c :: q).dropWhile isLD) = u
     generalize ixS names ((c :: q).takeWhile isLD) 0 = ix
     intro hs hk hi hsk2
     cases u with
     | nil =>
      rw [show tree_Reader_Is n ⟨t, pos t ((c :: q).dropWhile isLD)⟩ 40 = some (false, ⟨t, pos t []⟩) from hi, Option.bind_some]
      simp only [Bool.false_eq_true, if_false]
      rw [app_ok (by simp only [List.length_cons, List.length_nil]; omega), Option.bind_some, next_eq (by omega) hs (by simp only [List.length_nil]; omega), Option.bind_some]
      exact ih [] k n _ hs rfl (by simp only [List.length_nil]; omega) (by simp only [List.length_nil]; omega) (by simp only [List.length_nil]; omega) (by simp only [List.length_append, List.length_cons, List.length_nil]; omega)
     | cons d r =>
      simp only [List.length_cons] at hk
      dsimp only
      by_cases c4 : d = 40
      ·rw [show tree_Reader_Is n ⟨t, pos t ((c :: q).dropWhile isLD)⟩ 40 = some (true, ⟨t, pos t r⟩) from hi.trans (by simp only [if_pos (show d = UInt8.ofNat 40 from c4)]), Option.bind_some, if_pos c4]
       simp only [if_true]
       have hr := hs.trans (Sf.tail)
       have hin := list_of ht ih hr (by omega) (n := n) (by omega)
       cases hp : PL names f (skp r) [] with
       | none =>
        rw [hp] at hin
        obtain ⟨x, hx⟩ := hin
        rw [hx]
        exact ⟨x, rfl⟩
       | some z =>
        obtain ⟨kids, r1⟩ := z
        rw [hp] at hin
        simp only [Rp] at hin
        rw [hin, Option.bind_some]
        obtain ⟨b1, b2, b3⟩ := PL_out _ _ _ _ _ _ hp
        have hr1 := (hr.trans (.skp r)).trans b1
        have hlr := skp_len r
        have hl1 := b1.len
        have ht4 := take_eq' (t := t) (by omega) hr1 (n := n) (by omega) 41 (by omega)
        dsimp only
        rcases b2 with rfl | ⟨e, r2, rfl, he⟩
        ·rw [show tree_Reader_Take n ⟨t, pos t []⟩ 41 = some (none, ⟨t, pos t []⟩) from ht4]
         exact ⟨_, rfl⟩
        ·have he32 : e ≠ 32 := by rcases he with rfl | rfl <;> decide
         rw [skp_cons, if_neg he32] at ht4
         simp only [List.length_cons] at hl1
         dsimp only at ht4 ⊢
         by_cases c5 : e = 41
         ·rw [show tree_Reader_Take n ⟨t, pos t (e :: r2)⟩ 41 = some (some (), ⟨t, pos t r2⟩) from ht4.trans (by simp only [if_pos (show e = UInt8.ofNat 41 from c5)]), Option.bind_some, if_pos c5]
          dsimp only
          have hr2 := hr1.trans Sf.tail
          have hl2 := skp_len r2
          rw [app_ok (by simp only [List.length_cons, List.length_nil]; omega), Option.bind_some, next_eq (by omega) hr2 (by omega), Option.bind_some]
          exact ih (skp r2) k n _ (hr2.trans (.skp r2)) (skp_skp r2) (by omega) (by omega) (by omega) (by simp only [List.length_append, List.length_cons, List.length_nil]; omega)
         ·rw [show tree_Reader_Take n ⟨t, pos t (e :: r2)⟩ 41 = some (none, ⟨t, pos t (e :: r2)⟩) from ht4.trans (by simp only [if_neg (show ¬ e = UInt8.ofNat 41 from c5)]), Option.bind_some, if_neg c5]
          exact ⟨_, rfl⟩
      ·rw [show tree_Reader_Is n ⟨t, pos t ((c :: q).dropWhile isLD)⟩ 40 = some (false, ⟨t, pos t (d :: r)⟩) from hi.trans (by simp only [if_neg (show ¬ d = UInt8.ofNat 40 from c4)]), Option.bind_some, if_neg c4]
       simp only [Bool.false_eq_true, if_false]
       rw [app_ok (by simp only [List.length_cons, List.length_nil]; omega), Option.bind_some, next_eq (by omega) hs (by simp only [List.length_cons]; omega), Option.bind_some, hsk2]
       exact ih (d :: r) k n _ hs hsk2 (by simp only [List.length_cons]; omega) (by simp only [List.length_cons]; omega) (by simp only [List.length_cons]; omega) (by simp only [List.length_append, List.length_cons, List.length_nil]; omega)
    ·simp only [if_neg c3, if_neg (fun e => c3 e.2 : ¬ (nameB ((c :: q).takeWhile isLD) = true ∧ 0 ≤ ixS names ((c :: q).takeWhile isLD) 0))]
     exact ⟨_, rfl⟩
   ·simp only [if_neg c2, if_neg (fun e => c2 e.1 : ¬ (nameB ((c :: q).takeWhile isLD) = true ∧ 0 ≤ ixS names ((c :: q).takeWhile isLD) 0))]
    exact ⟨_, rfl⟩
end Go.AM.S02

namespace Go.AM.S02
open Go Go.Proofs Go.AM
set_option linter.unusedVariables false
set_option maxRecDepth 100000
set_option maxHeartbeats 4000000
theorem wq (a : UInt8) (q : Str) : wrd (a :: q) = if isL (a.toNat : Int) = true then (a :: q).takeWhile isLD else [] := by
 rw [wrd]
 split
 ·rename_i h; rw [List.takeWhile_cons, if_pos (by unfold isLD; rw [h]; rfl)]
 ·rfl
theorem ix_name {names : List Str} {a : Int} (hv : nmB names a = true) {w : Str} (h : 0 ≤ ixS names w 0) : nameB w = true := by
 rcases ixS_bd names w 0 with e | ⟨j, x, e1, e2, rfl⟩
 ·omega
 ·exact ((nm_out hv).2 j w e2).1
theorem name_ne {w : Str} (h : nameB w = true) : w ≠ [] := by rintro rfl; simp [nameB] at h
theorem tst {names : List Str} {a : Int} (hv : nmB names a = true) (c : UInt8) (q : Str) : ((nameB ((c :: q).takeWhile isLD) = true ∧ 0 ≤ ixS names ((c :: q).takeWhile isLD) 0) → wrd (c :: q) = (c :: q).takeWhile isLD) ∧ (0 ≤ ixS names (wrd (c :: q)) 0 → nameB ((c :: q).takeWhile isLD) = true ∧ wrd (c :: q) = (c :: q).takeWhile isLD) := by
 rw [wq]
 by_cases l : isL (c.toNat : Int) = true
 ·rw [if_pos l]
  exact ⟨fun _ => rfl, fun h => ⟨ix_name hv h, rfl⟩⟩
 ·rw [if_neg l]
  refine ⟨fun h => ?_, fun h => absurd rfl (name_ne (ix_name hv h))⟩
  exfalso
  have h1 := h.1
  unfold nameB at h1
  simp only [Bool.and_eq_true, decide_eq_true_eq] at h1
  obtain ⟨h2, _, h3⟩ := h1
  rw [List.takeWhile_cons] at h2 h3
  split at h2
  ·rename_i hc
   rw [if_pos hc, wq, if_neg l] at h3; cases h3
  ·exact h2 rfl
theorem rskip {R : Type} (K : Str → Option R) : ∀ (s : Str) (m : Nat), s.length < m → s.length ≤ 9000000 → whileC (fun (s6 : Str) n6 =>
 if s6 = ([] : Str) then
  K s6
 else
  (s6[0]?).bind fun v16 =>
  if (v16.toNat : Int) = 32 then
   (slcF s6 1).bind fun v17 =>
   n6 v17
  else
   K s6) m s = K (skp s)
 | s, 0, h, _ => by omega
 | [], m + 1, _, _ => by rw [whileC, if_pos rfl, skp_nil]
 | c :: r, m + 1, h, hl => by
  rw [whileC, if_neg (by simp), List.getElem?_cons_zero, Option.bind_some, skp_cons]
  by_cases e : c = 32
  ·rw [if_pos (chr32.2 e), if_pos e, show slcF (c :: r) 1 = some r by unfold slcF; rw [if_pos (by simp only [List.length_cons]; omega)]; rfl, Option.bind_some]
   exact rskip K r m (by simpa using h) (by simp only [List.length_cons] at hl; omega)
  ·rw [if_neg (fun q => e (chr32.1 q)), if_neg e]
def RBad (o : Option (List Node × ref02_reader)) : Prop := ∃ l nm s, o = some (l, ⟨nm, s, true⟩)
def Rr (names : List Str) (o : Option (List Node × ref02_reader)) : Option (List Node × Str) → Prop
 | none => RBad o
 | some (h, r) => if r.head? = some 0 then RBad o else o = some (h, ⟨names, r, false⟩)
def RB (n : Nat) (s5 : Bool × (List Node) × Str × (List Str)) (n5 : Bool × (List Node) × Str × (List Str) → Option (List Node × ref02_reader)) : Option (List Node × ref02_reader) :=
 if s5.1 = true then
  some (([] : List Node), (ref02_reader.mk s5.2.2.2 s5.2.2.1 true))
 else
  whileL n s5.2.2.1 (fun k6 (s6 : Str) n6 =>
   if s6 = ([] : Str) then
    k6 s6
   else
    (s6[0]?).bind fun v16 =>
    if (v16.toNat : Int) = 32 then
     (slcF s6 1).bind fun v17 =>
     n6 v17
    else
     k6 s6) fun s6 =>
  if s6 = ([] : Str) then
   some (s5.2.1, (ref02_reader.mk s5.2.2.2 s6 false))
  else
   (s6[0]?).bind fun v1 =>
   if (v1.toNat : Int) = 41 then
    some (s5.2.1, (ref02_reader.mk s5.2.2.2 s6 false))
   else
    (ref01_Word n s6).bind fun v2 =>
    (slcT s6 v2).bind fun v3 =>
    (ref01_Place s5.2.2.2 v3).bind fun v4 =>
    if v4 < 0 then
     some (([] : List Node), (ref02_reader.mk s5.2.2.2 s6 true))
    else
     (slcF s6 v2).bind fun v5 =>
     whileL n v5 (fun k7 (s7 : Str) n7 =>
      if s7 = ([] : Str) then
       k7 s7
      else
       (s7[0]?).bind fun v14 =>
       if (v14.toNat : Int) = 32 then
        (slcF s7 1).bind fun v15 =>
        n7 v15
       else
        k7 s7) fun s7 =>
     if s7 = ([] : Str) then
      (app 32 s5.2.1 [(Node.mk v4 ([] : List Node))]).bind fun v6 =>
      n5 (false, v6, v5, s5.2.2.2)
     else
      (s7[0]?).bind fun v7 =>
      if (v7.toNat : Int) = 40 then
       (slcF s7 1).bind fun v8 =>
       (ref02_reader_hedge n (ref02_reader.mk s5.2.2.2 v8 false)).bind fun v9 =>
       if v9.2.bad = true then
        some (([] : List Node), (ref02_reader.mk v9.2.names v9.2.s true))
       else
        if v9.2.s = ([] : Str) then
         some (([] : List Node), (ref02_reader.mk v9.2.names v9.2.s true))
        else
         (v9.2.s[0]?).bind fun v10 =>
         if (v10.toNat : Int) = 41 then
          (slcF v9.2.s 1).bind fun v11 =>
          (app 32 s5.2.1 [(Node.mk v4 v9.1)]).bind fun v12 =>
          n5 (false, v12, v11, v9.2.names)
         else
          some (([] : List Node), (ref02_reader.mk v9.2.names v9.2.s true))
      else
       (app 32 s5.2.1 [(Node.mk v4 ([] : List Node))]).bind fun v13 =>
       n5 (false, v13, v5, s5.2.2.2)
theorem rh_unf (n : Nat) (s : Str) (names : List Str) : ref02_reader_hedge (n + 1) ⟨names, s, false⟩ = whileC (RB n) n (false, ([] : List Node), s, names) := by
 rw [ref02_reader_hedge, whileL]
 congr 1
def RP (names : List Str) (f : Nat) : Prop := ∀ (s : Str) (m n : Nat) (acc : List Node), s.length < f → s.length < m → s.length + 3 ≤ n → s.length ≤ 90000 → acc.length + s.length ≤ 100000 →
 Rr names (whileC (RB n) m (false, acc, s, names)) (PL names f (skp s) acc)
theorem rh_of {names : List Str} {f : Nat} (hB : RP names f) {s : Str} (hl : s.length ≤ 90000) (hf : s.length < f) {n : Nat} (hn : s.length + 4 ≤ n) : Rr names (ref02_reader_hedge n ⟨names, s, false⟩) (PL names f (skp s) []) := by
 obtain ⟨k, rfl⟩ : ∃ k, n = k + 1 := ⟨n - 1, by omega⟩
 rw [rh_unf]
 exact hB s k k [] hf (by omega) (by omega) hl (by simp; omega)
theorem slcF1 {c : UInt8} {r : Str} : slcF (c :: r) 1 = some r := by unfold slcF; rw [if_pos (by simp only [List.length_cons]; omega)]; rfl
theorem dw_eq (q : Str) : q.drop (q.takeWhile isLD).length = q.dropWhile isLD := by
 conv => lhs; arg 2; rw [← List.takeWhile_append_dropWhile (p := isLD) (l := q)]
 rw [List.drop_left]
theorem rh_loop {names : List Str} {a : Int} (hv : nmB names a = true) (hN : names.length ≤ 1000) : ∀ f, RP names f := by
 intro f
 induction f with
 | zero => intro q m n acc h; omega
 | succ f ih =>
  intro s m n acc hf hm hn hl ha
  obtain ⟨k, rfl⟩ : ∃ k, m = k + 1 := ⟨m - 1, by omega⟩
  rw [whileC]
  generalize hnx : whileC (RB n) k = nx
  unfold RB
  dsimp only
  subst hnx
  rw [if_neg Bool.false_ne_true, whileL, rskip _ s n (by omega) (by omega)]
  have hks := skp_len s
  generalize skp s = q at hks ⊢
  cases q with
  | nil => rw [if_pos rfl]; simp only [PL]; rfl
  | cons c q =>
   simp only [List.length_cons] at hks
   rw [if_neg (by simp), List.getElem?_cons_zero, Option.bind_some]
   by_cases c1 : c = 41
   ·rw [if_pos (chr41.2 c1)]
    simp only [PL, if_pos (Or.inr c1 : c = 0 ∨ c = 41), Rr]
    rw [if_neg (by subst c1; simp)]
    trivial
   rw [if_neg (fun e => c1 (chr41.1 e)), word_eq _ (by simp only [List.length_cons]; omega) (by simp only [List.length_cons]; omega), Option.bind_some]
   have hw1 : ∃ z, c :: q = wrd (c :: q) ++ z := by
    rw [wq]
    split
    ·exact ⟨_, (List.takeWhile_append_dropWhile (p := isLD)).symm⟩
    ·exact ⟨_, rfl⟩
   obtain ⟨z, hz⟩ := hw1
   have hs1 : slcT (c :: q) ((wrd (c :: q)).length : Int) = some (wrd (c :: q)) := by
    have hle : ((wrd (c :: q)).length : Int) ≤ ((c :: q).length : Int) := by
     conv => rhs; rw [hz]
     rw [List.length_append]; omega
    unfold slcT
    rw [if_pos ⟨by omega, hle⟩, Int.toNat_natCast]
    conv => lhs; arg 1; arg 2; rw [hz]
    rw [List.take_left]
   rw [hs1, Option.bind_some, place_eq _ _ (by omega), Option.bind_some]
   obtain ⟨t1, t2⟩ := tst hv c q
   by_cases c3 : 0 ≤ ixS names (wrd (c :: q)) 0
   ·obtain ⟨u1, u2⟩ := t2 c3
    rw [if_neg (by omega)]
    have c0 : c ≠ 0 := by
     rintro rfl
     have : wrd (0 :: q) = [] := by rw [wq]; rfl
     rw [this] at u2; rw [← u2] at u1; exact name_ne u1 rfl
    simp only [PL, if_neg (fun e => e.elim c0 c1 : ¬ (c = 0 ∨ c = 41))]
    rw [u2] at c3 ⊢
    simp only [if_pos (And.intro u1 c3)]
    have hs2 : slcF (c :: q) (((c :: q).takeWhile isLD).length : Int) = some ((c :: q).dropWhile isLD) := by
     unfold slcF
     rw [if_pos ⟨by omega, by have := (List.takeWhile_sublist (p := isLD) (l := c :: q)).length_le; omega⟩, Int.toNat_natCast, dw_eq]
    have hd := Sf_len_dw c q u1
    rw [hs2, Option.bind_some, whileL, rskip _ _ n (by omega) (by omega)]
    have hk := skp_len ((c :: q).dropWhile isLD)
    have hnext : ∀ ix, Rr names (whileC (RB n) k (false, acc ++ [⟨ix, []⟩], (c :: q).dropWhile isLD, names)) (PL names f (skp ((c :: q).dropWhile isLD)) (acc ++ [⟨ix, []⟩])) := fun ix => ih _ k n _ (by omega) (by omega) (by omega) (by omega) (by simp only [List.length_append, List.length_cons, List.length_nil]; omega)
    revert hnext hk
    generalize skp ((c :: q).dropWhile isLD) = u
    generalize ixS names ((c :: q).takeWhile isLD) 0 = ix
    intro hk hnext
    cases u with
    | nil =>
     rw [if_pos rfl, app_ok (by simp only [List.length_cons, List.length_nil]; omega), Option.bind_some]
     exact hnext ix
    | cons d r =>
     simp only [List.length_cons] at hk
     rw [if_neg (by simp), List.getElem?_cons_zero, Option.bind_some]
     dsimp only
     by_cases c4 : d = 40
     ·rw [if_pos (chr40.2 c4), if_pos c4, slcF1, Option.bind_some]
      have hin := rh_of ih (s := r) (by omega) (by omega) (n := n) (by omega)
      cases hp : PL names f (skp r) [] with
      | none =>
       rw [hp] at hin
       obtain ⟨l, nm, z, hx⟩ := hin
       rw [hx]
       exact ⟨_, _, _, rfl⟩
      | some zz =>
       obtain ⟨kids, r1⟩ := zz
       rw [hp] at hin
       simp only [Rr] at hin
       obtain ⟨b1, b2, b3⟩ := PL_out _ _ _ _ _ _ hp
       have hlr := skp_len r
       have hl1 := b1.len
       split at hin
       ·rename_i h0
        obtain ⟨l, nm, z, hx⟩ := hin
        rw [hx, Option.bind_some, if_pos rfl]
        cases r1 with
        | nil => cases h0
        | cons e r2 =>
         injection h0 with h0; subst h0
         exact ⟨_, _, _, rfl⟩
       ·rename_i h0
        rw [hin, Option.bind_some, if_neg Bool.false_ne_true]
        rcases b2 with rfl | ⟨e, r2, rfl, he⟩
        ·rw [if_pos rfl]; exact ⟨_, _, _, rfl⟩
        ·dsimp only
         rw [if_neg (by simp), List.getElem?_cons_zero, Option.bind_some]
         simp only [List.length_cons] at hl1
         have c5 : e = 41 := he.elim (fun h => absurd (by rw [h]; rfl) h0) id
         have hl2 := skp_len r2
         rw [if_pos (chr41.2 c5), if_pos c5, slcF1, Option.bind_some, app_ok (by simp only [List.length_cons, List.length_nil]; omega), Option.bind_some]
         exact ih r2 k n _ (by omega) (by omega) (by omega) (by omega) (by simp only [List.length_append, List.length_cons, List.length_nil]; omega)
     ·rw [if_neg (fun e => c4 (chr40.1 e)), if_neg c4, app_ok (by simp only [List.length_cons, List.length_nil]; omega), Option.bind_some]
      exact hnext ix
   ·rw [if_pos (by omega)]
    simp only [PL]
    by_cases c0 : c = 0
    ·simp only [if_pos (Or.inl c0 : c = 0 ∨ c = 41), Rr]
     rw [if_pos (by rw [c0]; rfl)]
     exact ⟨_, _, _, rfl⟩
    ·simp only [if_neg (fun e => e.elim c0 c1 : ¬ (c = 0 ∨ c = 41))]
     rw [if_neg (fun e => c3 (by rw [t1 e]; exact e.2))]
     exact ⟨_, _, _, rfl⟩
end Go.AM.S02

namespace Go.AM.S02
open Go Go.Proofs Go.AM
set_option linter.unusedVariables false
set_option maxRecDepth 100000
set_option maxHeartbeats 4000000
def PP (names : List Str) (t : Str) : List Node × Int := match PL names (t.length + 1) (skp t) [] with
 | some (h, []) => if 300 < nsL h then ([], 3) else (h, 0)
 | _ => ([], 4)
def pP (a : Int) (names : List Str) (t : Str) : List Node × Int := if 1 ≤ a ∧ a ≤ 8 then (if nmB names a = true then (if 16384 < (t.length : Int) then ([], 3) else PP names t) else ([], 4)) else ([], 6)
theorem pos_self (t : Str) : pos t t = 0 := by unfold pos; omega
theorem labels_eq (a : Int) : hedge_labels a = some (decide (1 ≤ a ∧ a ≤ 8)) := by
 unfold hedge_labels
 by_cases c : 1 ≤ a
 ·rw [if_pos c]; congr 1; exact decide_eq_decide.2 (by omega)
 ·rw [if_neg c]; congr 1; symm; exact decide_eq_false (by omega)
theorem end_eq {t s : Str} (ht : t.length ≤ 9000000) {n : Nat} (hs : Sf t s) (hn : s.length < n) : tree_Reader_End n ⟨t, pos t s⟩ = some (decide (skp s = []), ⟨t, pos t (skp s)⟩) := by
 obtain ⟨b, e⟩ := skip_eq ht hs hn
 unfold tree_Reader_End
 rw [e, Option.bind_some]
 have hq := hs.trans (.skp s)
 generalize skp s = q at hq ⊢
 dsimp only
 congr 1
 cases q with
 | nil => rw [pos_nil, decide_eq_true rfl, beq_self_eq_true]
 | cons c r =>
  have := (pos_cons hq).1
  rw [decide_eq_false (by simp), beq_eq_false_iff_ne.2 (by omega)]
theorem parse_eq {n : Nat} {a : Int} {names : List Str} {t : Str} (hN : names.length ≤ 1000) (hn : 16384 + 100 ≤ n) : hedge_Parse n a names t = some (pP a names t) := by
 unfold hedge_Parse pP
 rw [labels_eq, Option.bind_some]
 by_cases c1 : 1 ≤ a ∧ a ≤ 8
 ·rw [if_pos (decide_eq_true c1), if_pos c1, names_eq _ _ hN, Option.bind_some]
  by_cases c2 : nmB names a = true
  ·rw [if_pos c2, if_pos c2]
   by_cases c3 : 16384 < (t.length : Int)
   ·rw [if_pos c3, if_pos c3]
   ·rw [if_neg c3, if_neg c3]
    unfold hedge_read
    have h := list_of (t := t) (by omega) (list_loop (names := names) (by omega) hN (t.length + 1)) (Sf.refl t) (by omega) (n := n) (by omega)
    rw [pos_self] at h
    unfold PP
    cases hp : PL names (t.length + 1) (skp t) [] with
    | none =>
     rw [hp] at h
     obtain ⟨x, hx⟩ := h
     rw [hx]; rfl
    | some z =>
     obtain ⟨h1, r⟩ := z
     rw [hp] at h
     simp only [Rp] at h
     obtain ⟨b1, b2, b3⟩ := PL_out _ _ _ _ _ _ hp
     have hr := (Sf.skp t).trans b1
     have hl := hr.len
     have hkt := skp_len t
     have hdl := dL_le h1
     rw [nsL] at b3
     rw [h, Option.bind_some]
     simp only [pn]
     rw [end_eq (by omega) hr (by omega), Option.bind_some]
     rcases b2 with rfl | ⟨c, r', rfl, hc⟩
     ·rw [skp_nil, decide_eq_true rfl]
      simp only [if_true, Option.bind_some]
      rw [size_eq n h1 (by omega) (by omega), Option.bind_some]
      by_cases c4 : 300 < nsL h1
      ·rw [if_pos (by omega), if_pos c4]
      ·rw [if_neg (by omega), if_neg c4]
     ·have h32 : c ≠ 32 := by rcases hc with rfl | rfl <;> decide
      rw [skp_cons, if_neg h32, decide_eq_false (by simp)]
      rfl
  ·rw [if_neg c2, if_neg c2]
 ·rw [if_neg (by rw [decide_eq_false c1]; decide), if_neg c1]
theorem rparse_eq {n : Nat} {a : Int} {names : List Str} {t : Str} (hN : names.length ≤ 1000) (hn : 16384 + 100 ≤ n) : ref02_Parse n a names t = some (pP a names t) := by
 unfold ref02_Parse pP
 by_cases c0 : a < 1
 ·rw [if_pos c0, if_neg (by omega)]
 by_cases c0' : 8 < a
 ·rw [if_neg c0, if_pos c0', if_neg (by omega)]
 rw [if_neg c0, if_neg c0', if_pos (show 1 ≤ a ∧ a ≤ 8 by omega), rnames_eq (by omega) _ _ hN, Option.bind_some]
 by_cases c2 : nmB names a = true
 ·rw [if_pos c2, if_pos c2]
  by_cases c3 : 16384 < (t.length : Int)
  ·rw [if_pos c3, if_pos c3]
  ·rw [if_neg c3, if_neg c3]
   have h := rh_of (rh_loop c2 hN (t.length + 1)) (s := t) (by omega) (by omega) (n := n) (by omega)
   unfold PP
   cases hp : PL names (t.length + 1) (skp t) [] with
   | none =>
    rw [hp] at h
    obtain ⟨l, nm, z, hx⟩ := h
    rw [hx]; rfl
   | some z =>
    obtain ⟨h1, r⟩ := z
    rw [hp] at h
    simp only [Rr] at h
    obtain ⟨b1, b2, b3⟩ := PL_out _ _ _ _ _ _ hp
    have hkt := skp_len t
    have hdl := dL_le h1
    have hln := len_ns h1
    rw [nsL] at b3
    rcases b2 with rfl | ⟨c, r', rfl, hc⟩
    ·rw [if_neg (by simp)] at h
     rw [h, Option.bind_some, if_neg Bool.false_ne_true, if_pos rfl, few_eq (h := h1) (by omega) (by omega) (wdL_of _ (by omega)) (by omega) (by omega), Option.bind_some]
     dsimp only
     by_cases c4 : 300 < nsL h1
     ·rw [if_neg (by rw [decide_eq_false (by omega)]; decide), if_pos c4]
     ·rw [if_pos (decide_eq_true (by omega)), if_neg c4]
    ·split at h
     ·obtain ⟨l, nm, z, hx⟩ := h
      rw [hx]; rfl
     ·rw [h, Option.bind_some, if_neg Bool.false_ne_true, if_neg (by simp)]
 ·rw [if_neg c2, if_neg c2]
def nmA (names : List Str) (i : Int) : Str := (names[i.toNat]?).getD []
mutual
def wrN (names : List Str) : Node → Str
 | .mk l k => nmA names l ++ (if k.length = 0 then [] else 40 :: (wrL names false k ++ [41]))
def wrL (names : List Str) : Bool → List Node → Str
 | _, [] => []
 | b, x :: r => (if b = true then [32] else []) ++ wrN names x ++ wrL names true r
end
theorem wrN_eq (names : List Str) (x : Node) : wrN names x = nmA names x.Label ++ (if x.Kids.length = 0 then [] else 40 :: (wrL names false x.Kids ++ [41])) := by cases x; rw [wrN]
theorem nm_at {names : List Str} {a : Int} (hv : nmB names a = true) {l : Int} (h : 0 ≤ l ∧ l < a) : idx names l = some (nmA names l) ∧ nameB (nmA names l) = true ∧ ixS names (nmA names l) 0 = l := by
 obtain ⟨h1, h2⟩ := nm_out hv
 have hl : l.toNat < names.length := by omega
 have e : names[l.toNat]? = some (names[l.toNat]) := List.getElem?_eq_getElem hl
 obtain ⟨a1, a2⟩ := h2 _ _ e
 have e2 : nmA names l = names[l.toNat] := by unfold nmA; rw [e]; rfl
 unfold idx
 rw [if_pos h.1, e2]
 exact ⟨e, a1, by omega⟩
theorem name_len {w : Str} (h : nameB w = true) : w.length ≤ 12 := by
 unfold nameB at h
 simp only [Bool.and_eq_true, decide_eq_true_eq] at h
 exact h.2.1
theorem lab_cons {a : Int} {x : Node} {r : List Node} (h : labL a (x :: r) = true) : (0 ≤ x.Label ∧ x.Label < a) ∧ labL a x.Kids = true ∧ labL a r = true := by
 rw [labL_cons, Bool.and_eq_true, Bool.and_eq_true, decide_eq_true_eq] at h
 exact ⟨h.1.1, h.1.2, h.2⟩
theorem wr_len {names : List Str} {a : Int} (hv : nmB names a = true) : ∀ (k : Nat) (h : List Node) (b : Bool), nsL h < k → labL a h = true → (wrL names b h).length ≤ 16 * nsL h
 | 0, _, _, h, _ => by omega
 | k + 1, [], b, _, _ => by rw [wrL]; simp
 | k + 1, x :: r, b, hk, hl => by
  obtain ⟨l1, l2, l3⟩ := lab_cons hl
  rw [nsL_cons] at hk ⊢
  have i1 := wr_len hv k x.Kids false (by omega) l2
  have i2 := wr_len hv k r true (by omega) l3
  have i3 := name_len (nm_at hv l1).2.1
  rw [wrL, wrN_eq]
  simp only [List.length_append]
  have i4 : (if b = true then [32] else [] : Str).length ≤ 1 := by split <;> simp
  have i5 : (if x.Kids.length = 0 then [] else 40 :: (wrL names false x.Kids ++ [41]) : Str).length ≤ 2 + 16 * nsL x.Kids := by
   split
   ·simp
   ·simp only [List.length_cons, List.length_append, List.length_nil]; omega
  omega
theorem ofStr_len (a : Str) : (ofStr a).length = a.length := List.length_map ..
theorem write_eq {names : List Str} {a : Int} (hv : nmB names a = true) : ∀ (n : Nat) (h : List Node) (o : List Int), dL h < n → nsL h ≤ 10000 → labL a h = true → o.length + 16 * nsL h ≤ 1000000 →
 hedge_write n o names h = some (o ++ ofStr (wrL names false h)) := by
 intro n
 induction n with
 | zero => intro h o hd; omega
 | succ n ih =>
  intro h o hd hs hl ho
  have hlen := len_ns h
  rw [hedge_write, rangeL, if_pos (by omega)]
  suffices H : ∀ (l : List Node) (i : Nat) (s : List Int), dL l < n + 1 → nsL l ≤ 10000 → labL a l = true → s.length + 16 * nsL l ≤ 1000000 → rangeC (fun i1 x1 (s1 : (List Int)) n1 =>
   if 0 < (i1 : Int) then
    (app 1 s1 [32]).bind fun v1 =>
    (idx names x1.Label).bind fun v2 =>
    (app 1 v1 (ofStr v2)).bind fun v3 =>
    if 0 < (x1.Kids.length : Int) then
     (app 1 v3 [40]).bind fun v4 =>
     (hedge_write n v4 names x1.Kids).bind fun v5 =>
     (app 1 v5 [41]).bind fun v6 =>
     n1 v6
    else
     n1 v3
   else
    (idx names x1.Label).bind fun v7 =>
    (app 1 s1 (ofStr v7)).bind fun v8 =>
    if 0 < (x1.Kids.length : Int) then
     (app 1 v8 [40]).bind fun v9 =>
     (hedge_write n v9 names x1.Kids).bind fun v10 =>
     (app 1 v10 [41]).bind fun v11 =>
     n1 v11
    else
     n1 v8) l i s (fun s1 => some s1) = some (s ++ ofStr (wrL names (decide (0 < i)) l)) from H h 0 o hd hs hl ho
  intro l
  induction l with
  | nil => intro i s _ _ _ _; rw [rangeC, wrL]; simp [ofStr]
  | cons x r ihr =>
   intro i s hd hs hl ho
   obtain ⟨d1, d2⟩ := dL_cons hd
   obtain ⟨l1, l2, l3⟩ := lab_cons hl
   obtain ⟨n1, n2, n3⟩ := nm_at hv l1
   have n4 := name_len n2
   rw [nsL_cons] at hs ho
   have w1 := wr_len hv (nsL x.Kids + 1) x.Kids false (by omega) l2
   have hstep : ∀ q : List Int, q.length ≤ s.length + 13 → (if 0 < (x.Kids.length : Int) then
    (app 1 q [40]).bind fun v4 =>
    (hedge_write n v4 names x.Kids).bind fun v5 =>
    (app 1 v5 [41]).bind fun v6 => (some v6 : Option (List Int)) else some q) = some (q ++ ofStr (if x.Kids.length = 0 then [] else 40 :: (wrL names false x.Kids ++ [41]))) := by
    intro q hq
    by_cases ck : x.Kids.length = 0
    ·rw [if_neg (by omega), if_pos ck]; simp [ofStr]
    ·have := len_ns x.Kids
     rw [if_pos (by omega), if_neg ck, app_ok (by simp only [List.length_cons, List.length_nil]; omega), Option.bind_some, ih x.Kids _ d1 (by omega) l2 (by simp only [List.length_append, List.length_cons, List.length_nil]; omega), Option.bind_some, app_ok (by simp only [List.length_append, List.length_cons, List.length_nil, ofStr_len]; omega), Option.bind_some]
     congr 1
     simp [ofStr]
   have hstep' : ∀ (q : List Int) (N : List Int → Option (List Int)), q.length ≤ s.length + 13 → (if 0 < (x.Kids.length : Int) then
    (app 1 q [40]).bind fun v4 =>
    (hedge_write n v4 names x.Kids).bind fun v5 =>
    (app 1 v5 [41]).bind fun v6 => N v6 else N q) = N (q ++ ofStr (if x.Kids.length = 0 then [] else 40 :: (wrL names false x.Kids ++ [41]))) := by
    intro q N hq
    have h0 := hstep q hq
    have : ∀ o : Option (List Int), o = some (q ++ ofStr (if x.Kids.length = 0 then [] else 40 :: (wrL names false x.Kids ++ [41]))) → o.bind N = N (q ++ ofStr (if x.Kids.length = 0 then [] else 40 :: (wrL names false x.Kids ++ [41]))) := fun o e => by rw [e]; rfl
    rw [← this _ h0]
    split
    ·simp only [Option.bind_assoc, Option.bind_some]
    ·rfl
   have w2 : (ofStr (if x.Kids.length = 0 then [] else 40 :: (wrL names false x.Kids ++ [41]))).length ≤ 2 + 16 * nsL x.Kids := by
    rw [ofStr_len]
    split
    ·simp
    ·simp only [List.length_cons, List.length_append, List.length_nil]; omega
   rw [rangeC]
   by_cases hi : 0 < i
   ·rw [if_pos (by omega), app_ok (by simp only [List.length_cons, List.length_nil]; omega), Option.bind_some, n1, Option.bind_some, app_ok (by simp only [List.length_append, List.length_cons, List.length_nil, ofStr_len]; omega), Option.bind_some, hstep' _ _ (by simp only [List.length_append, List.length_cons, List.length_nil, ofStr_len]; omega), ihr _ _ d2 (by omega) l3 (by simp only [List.length_append, List.length_cons, List.length_nil, ofStr_len] at w2 ⊢; omega)]
    congr 1
    rw [decide_eq_true hi, decide_eq_true (by omega : 0 < i + 1), wrL, wrN_eq]
    simp [ofStr]
   ·rw [if_neg (by omega), n1, Option.bind_some, app_ok (by simp only [List.length_append, List.length_cons, List.length_nil, ofStr_len]; omega), Option.bind_some, hstep' _ _ (by simp only [List.length_append, List.length_cons, List.length_nil, ofStr_len]; omega), ihr _ _ d2 (by omega) l3 (by simp only [List.length_append, List.length_cons, List.length_nil, ofStr_len] at w2 ⊢; omega)]
    congr 1
    rw [decide_eq_false hi, decide_eq_true (by omega : 0 < i + 1), wrL, wrN_eq]
    simp [ofStr]
end Go.AM.S02

namespace Go.AM.S02
open Go Go.Proofs Go.AM
set_option linter.unusedVariables false
set_option maxRecDepth 100000
set_option maxHeartbeats 4000000
theorem cat_ok {a b : Str} (h : a.length + b.length ≤ 140737488355328) : cat a b = some (a ++ b) := if_pos h
theorem rwrite_eq {names : List Str} {a : Int} (hv : nmB names a = true) : ∀ (n : Nat) (h : List Node), dL h < n → nsL h ≤ 10000 → labL a h = true →
 ref02_Write n names h = some (wrL names false h) := by
 intro n
 induction n with
 | zero => intro h hd; omega
 | succ n ih =>
  intro h hd hs hl
  have hlen := len_ns h
  rw [ref02_Write, rangeL, if_pos (by omega)]
  suffices H : ∀ (l : List Node) (i : Nat) (s : Str), dL l < n + 1 → nsL l ≤ 10000 → labL a l = true → s.length + 16 * nsL l ≤ 1000000 → rangeC (fun i1 x1 (s1 : Str) n1 =>
   if 0 < (i1 : Int) then
    (cat s1 ([32] : Str)).bind fun v1 =>
    (idx names x1.Label).bind fun v2 =>
    (cat v1 v2).bind fun v3 =>
    if 0 < (x1.Kids.length : Int) then
     (ref02_Write n names x1.Kids).bind fun v4 =>
     (cat ([40] : Str) v4).bind fun v5 =>
     (cat v5 ([41] : Str)).bind fun v6 =>
     (cat v3 v6).bind fun v7 =>
     n1 v7
    else
     n1 v3
   else
    (idx names x1.Label).bind fun v8 =>
    (cat s1 v8).bind fun v9 =>
    if 0 < (x1.Kids.length : Int) then
     (ref02_Write n names x1.Kids).bind fun v10 =>
     (cat ([40] : Str) v10).bind fun v11 =>
     (cat v11 ([41] : Str)).bind fun v12 =>
     (cat v9 v12).bind fun v13 =>
     n1 v13
    else
     n1 v9) l i s (fun s1 => some s1) = some (s ++ wrL names (decide (0 < i)) l) from H h 0 [] hd hs hl (by simp only [List.length_nil]; omega)
  intro l
  induction l with
  | nil => intro i s _ _ _ _; rw [rangeC, wrL]; simp
  | cons x r ihr =>
   intro i s hd hs hl ho
   obtain ⟨d1, d2⟩ := dL_cons hd
   obtain ⟨l1, l2, l3⟩ := lab_cons hl
   obtain ⟨n1, n2, n3⟩ := nm_at hv l1
   have n4 := name_len n2
   rw [nsL_cons] at hs ho
   have w1 := wr_len hv (nsL x.Kids + 1) x.Kids false (by omega) l2
   have hstep' : ∀ (q : Str) (N : Str → Option Str), q.length ≤ s.length + 13 → (if 0 < (x.Kids.length : Int) then
    (ref02_Write n names x.Kids).bind fun v4 =>
    (cat ([40] : Str) v4).bind fun v5 =>
    (cat v5 ([41] : Str)).bind fun v6 =>
    (cat q v6).bind fun v7 => N v7 else N q) = N (q ++ (if x.Kids.length = 0 then [] else 40 :: (wrL names false x.Kids ++ [41]))) := by
    intro q N hq
    by_cases ck : x.Kids.length = 0
    ·rw [if_neg (by omega), if_pos ck, List.append_nil]
    ·rw [if_pos (by omega), if_neg ck, ih x.Kids d1 (by omega) l2, Option.bind_some, cat_ok (by simp only [List.length_cons, List.length_nil]; omega), Option.bind_some, cat_ok (by first | omega | (simp only [List.length_append, List.length_cons, List.length_nil]; omega)), Option.bind_some, cat_ok (by first | omega | (simp only [List.length_append, List.length_cons, List.length_nil]; omega)), Option.bind_some]
     rfl
   have w2 : (if x.Kids.length = 0 then [] else 40 :: (wrL names false x.Kids ++ [41]) : Str).length ≤ 2 + 16 * nsL x.Kids := by
    split
    ·simp
    ·simp only [List.length_cons, List.length_append, List.length_nil]; omega
   rw [rangeC]
   by_cases hi : 0 < i
   ·rw [if_pos (by omega), cat_ok (by simp only [List.length_cons, List.length_nil]; omega), Option.bind_some, n1, Option.bind_some, cat_ok (by first | omega | (simp only [List.length_append, List.length_cons, List.length_nil]; omega)), Option.bind_some, hstep' _ _ (by first | omega | (simp only [List.length_append, List.length_cons, List.length_nil]; omega)), ihr _ _ d2 (by omega) l3 (by simp only [List.length_append, List.length_cons, List.length_nil] at w2 ⊢; omega)]
    congr 1
    rw [decide_eq_true hi, decide_eq_true (by omega : 0 < i + 1), wrL, wrN_eq]
    simp
   ·rw [if_neg (by omega), n1, Option.bind_some, cat_ok (by first | omega | (simp only [List.length_append, List.length_cons, List.length_nil]; omega)), Option.bind_some, hstep' _ _ (by first | omega | (simp only [List.length_append, List.length_cons, List.length_nil]; omega)), ihr _ _ d2 (by omega) l3 (by simp only [List.length_append, List.length_cons, List.length_nil] at w2 ⊢; omega)]
    congr 1
    rw [decide_eq_false hi, decide_eq_true (by omega : 0 < i + 1), wrL, wrN_eq]
    simp
def prP (a : Int) (names : List Str) (h : List Node) : Str × Int := if vld a h = true then (if nmB names a = true then (wrL names false h, 0) else ([], 4)) else ([], 1)
theorem strB_ofStr (s : Str) : strB (ofStr s) = s := by
 unfold strB ofStr
 rw [List.map_map]
 conv => rhs; rw [← List.map_id s]
 refine List.map_congr_left fun u _ => ?_
 show UInt8.ofNat (((u.toNat : Nat) : Int).toNat) = u
 rw [Int.toNat_natCast]
 exact UInt8.ofNat_toNat
theorem print_eq {n : Nat} {a : Int} {names : List Str} {h : List Node} (hd : dL h < n) (hn : 20 ≤ n) (hl : h.length < 9223372036854775808) (hw : wdL h = true) (hN : names.length ≤ 1000) : hedge_Print n a names h = some (prP a names h) ∧ ref02_Print n a names h = some (prP a names h) := by
 unfold hedge_Print ref02_Print prP
 rw [hvalid_eq hd hl hw, rvalid_eq hd hl hw]
 simp only [Option.bind_some]
 by_cases c : vld a h = true
 ·obtain ⟨_, c2, c3⟩ := vld_le c
  rw [if_pos c, if_pos c, if_pos c, names_eq _ _ hN, rnames_eq hn _ _ hN]
  simp only [Option.bind_some]
  by_cases d : nmB names a = true
  ·rw [if_pos d, if_pos d, if_pos d, write_eq d n h [] hd (by omega) c3 (by simp only [List.length_nil]; omega), rwrite_eq d n h hd (by omega) c3]
   simp only [Option.bind_some, List.nil_append, strB_ofStr, and_self]
  ·rw [if_neg d, if_neg d, if_neg d]; exact ⟨rfl, rfl⟩
 ·rw [if_neg c, if_neg c, if_neg c]; exact ⟨rfl, rfl⟩
theorem name_out {w : Str} (h : nameB w = true) : (∃ c q, w = c :: q ∧ isL (c.toNat : Int) = true) ∧ w.takeWhile isLD = w := by
 have h' := h
 unfold nameB at h
 simp only [Bool.and_eq_true, decide_eq_true_eq] at h
 obtain ⟨h1, h2, h3⟩ := h
 cases w with
 | nil => exact absurd rfl h1
 | cons c q =>
  rw [wq] at h3
  split at h3
  ·rename_i hc; exact ⟨⟨c, q, rfl, hc⟩, h3⟩
  ·cases h3
theorem tw_mem {w : Str} (h : w.takeWhile isLD = w) : ∀ x ∈ w, isLD x = true := by
 induction w with
 | nil => intro x hx; cases hx
 | cons c q ih =>
  rw [List.takeWhile_cons] at h
  split at h
  ·rename_i hc
   injection h with _ h
   intro x hx
   rcases List.mem_cons.1 hx with rfl | hx
   ·exact hc
   ·exact ih h x hx
  ·cases h
theorem tw_app {w T : Str} (h : ∀ x ∈ w, isLD x = true) (hT : T.takeWhile isLD = []) : (w ++ T).takeWhile isLD = w ∧ (w ++ T).dropWhile isLD = T := by
 have hT' : T.dropWhile isLD = T := by have := List.takeWhile_append_dropWhile (p := isLD) (l := T); rw [hT] at this; exact this
 induction w with
 | nil => exact ⟨hT, hT'⟩
 | cons c q ih =>
  obtain ⟨i1, i2⟩ := ih fun x hx => h x (List.mem_cons_of_mem _ hx)
  have hc := h c (List.mem_cons_self ..)
  rw [List.cons_append, List.takeWhile_cons, if_pos hc, List.dropWhile_cons, if_pos hc, i1]
  exact ⟨rfl, i2⟩
def Rest (s : Str) : Prop := s = [] ∨ ∃ r, s = 41 :: r
theorem isL_ne {c : UInt8} (h : isL (c.toNat : Int) = true) : c ≠ 32 ∧ c ≠ 0 ∧ c ≠ 41 ∧ c ≠ 40 := by
 refine ⟨?_, ?_, ?_, ?_⟩ <;> (rintro rfl; exact absurd h (by decide))
theorem skw {names : List Str} {a : Int} (hv : nmB names a = true) {h : List Node} (hl : labL a h = true) (b : Bool) {rest : Str} (hr : Rest rest) : skp (wrL names b h ++ rest) = wrL names false h ++ rest := by
 cases h with
 | nil =>
  rw [wrL, wrL, List.nil_append]
  rcases hr with rfl | ⟨r, rfl⟩
  ·rfl
  ·rw [skp_cons, if_neg (by decide)]
 | cons x r =>
  obtain ⟨l1, l2, l3⟩ := lab_cons hl
  obtain ⟨n1, n2, n3⟩ := nm_at hv l1
  obtain ⟨⟨c, q, e, hc⟩, _⟩ := name_out n2
  have : ∀ b, wrL names b (x :: r) = (if b = true then [32] else []) ++ c :: (q ++ (if x.Kids.length = 0 then [] else 40 :: (wrL names false x.Kids ++ [41])) ++ wrL names true r) := by
   intro b; rw [wrL, wrN_eq, e]; simp
  rw [this, this]
  have h32 := (isL_ne hc).1
  cases b
  ·simp only [Bool.false_eq_true, if_false, List.nil_append, List.cons_append]
   rw [skp_cons, if_neg h32]
  ·simp only [Bool.false_eq_true, if_false, if_true, List.nil_append, List.cons_append]
   rw [skp_cons, if_pos rfl, skp_cons, if_neg h32]
theorem wr_hd {names : List Str} {a : Int} (hv : nmB names a = true) {h : List Node} (hl : labL a h = true) {rest : Str} (hr : Rest rest) : ∀ d r, wrL names false h ++ rest = d :: r → d ≠ 40 := by
 cases h with
 | nil =>
  rw [wrL, List.nil_append]
  rcases hr with rfl | ⟨r, rfl⟩
  ·intro d r h; cases h
  ·intro d r h; injection h with h _; subst h; decide
 | cons x r =>
  obtain ⟨l1, l2, l3⟩ := lab_cons hl
  obtain ⟨n1, n2, n3⟩ := nm_at hv l1
  obtain ⟨⟨c, q, e, hc⟩, _⟩ := name_out n2
  intro d z h
  rw [wrL, wrN_eq, e] at h
  simp only [Bool.false_eq_true, if_false, List.nil_append, List.cons_append] at h
  injection h with h _
  subst h
  exact (isL_ne hc).2.2.2
theorem wr_tw {names : List Str} {h : List Node} {rest : Str} (hr : Rest rest) : (wrL names true h ++ rest).takeWhile isLD = [] := by
 cases h with
 | nil =>
  rw [wrL, List.nil_append]
  rcases hr with rfl | ⟨r, rfl⟩
  ·rfl
  ·rw [List.takeWhile_cons, if_neg (by decide)]
 | cons x r =>
  rw [wrL]
  simp only [if_true, List.cons_append]
  rw [List.takeWhile_cons, if_neg (by decide)]
theorem rt {names : List Str} {a : Int} (hv : nmB names a = true) : ∀ (k : Nat) (h : List Node), nsL h < k → labL a h = true → ∀ (f : Nat) (acc : List Node) (rest : Str), Rest rest → (wrL names false h ++ rest).length < f →
 PL names f (wrL names false h ++ rest) acc = some (acc ++ h, rest)
 | 0, h, hk, _, _, _, _, _, _ => by omega
 | k + 1, [], _, _, 0, acc, rest, hr, hf => by omega
 | k + 1, [], _, _, f + 1, acc, rest, hr, hf => by
  rw [wrL, List.nil_append, List.append_nil]
  rcases hr with rfl | ⟨r, rfl⟩
  ·simp only [PL]
  ·simp only [PL, or_true, if_true]
 | k + 1, x :: r, _, _, 0, acc, rest, hr, hf => by omega
 | k + 1, x :: r, hk, hl, f + 1, acc, rest, hr, hf => by
  obtain ⟨l1, l2, l3⟩ := lab_cons hl
  obtain ⟨n1, n2, n3⟩ := nm_at hv l1
  obtain ⟨⟨c, q, e, hc⟩, htw⟩ := name_out n2
  obtain ⟨h32, h0, h41, h40⟩ := isL_ne hc
  rw [nsL_cons] at hk
  have hx : ∀ y : Node, y.Label = x.Label → y.Kids = x.Kids → y = x := by
   intro y; cases y; cases x; rintro rfl rfl; rfl
  by_cases ck : x.Kids.length = 0
  ·have e0 : wrL names false (x :: r) ++ rest = nmA names x.Label ++ (wrL names true r ++ rest) := by
    rw [wrL, wrN_eq, if_pos ck]; simp
   obtain ⟨t1, t2⟩ := tw_app (tw_mem htw) (wr_tw (names := names) (h := r) hr)
   rw [e0] at hf ⊢
   have hin := rt hv k r (by omega) l3 f (acc ++ [⟨x.Label, []⟩]) rest hr (by
    have h1 := skp_len (wrL names true r ++ rest)
    rw [skw hv l3 true hr] at h1
    rw [List.length_append, e, List.length_cons] at hf; omega)
   have hd := wr_hd hv l3 hr
   have hsk := skw hv l3 true hr
   have hxe : (⟨x.Label, []⟩ : Node) = x := hx _ rfl (by simp only [List.length_eq_zero_iff] at ck; exact ck.symm)
   revert hin hd hsk
   generalize wrL names false r ++ rest = u
   intro hin hd hsk
   have e1 : nmA names x.Label ++ (wrL names true r ++ rest) = c :: (q ++ (wrL names true r ++ rest)) := by rw [e]; rfl
   rw [e1]
   rw [e1] at t1 t2
   simp only [PL, if_neg (fun z => z.elim h0 h41 : ¬ (c = 0 ∨ c = 41))]
   rw [t1, t2, if_pos ⟨n2, by rw [n3]; exact l1.1⟩, n3, hsk]
   rw [hxe, List.append_assoc, List.singleton_append] at hin
   cases u with
   | nil => dsimp only; rw [hxe]; exact hin
   | cons d z => dsimp only; rw [if_neg (hd d z rfl), hxe]; exact hin
  ·have e0 : wrL names false (x :: r) ++ rest = nmA names x.Label ++ (40 :: (wrL names false x.Kids ++ (41 :: (wrL names true r ++ rest)))) := by
    rw [wrL, wrN_eq, if_neg ck]; simp
   obtain ⟨t1, t2⟩ := tw_app (T := 40 :: (wrL names false x.Kids ++ (41 :: (wrL names true r ++ rest)))) (tw_mem htw) (by rw [List.takeWhile_cons, if_neg (by decide)])
   rw [e0] at hf ⊢
   have hlen : (nmA names x.Label).length = q.length + 1 := by rw [e]; rfl
   simp only [List.length_append, List.length_cons] at hf
   have hin1 := rt hv k x.Kids (by omega) l2 f [] (41 :: (wrL names true r ++ rest)) (.inr ⟨_, rfl⟩) (by simp only [List.length_append, List.length_cons]; omega)
   have hin2 := rt hv k r (by omega) l3 f (acc ++ [⟨x.Label, x.Kids⟩]) rest hr (by
    have h1 := skp_len (wrL names true r ++ rest)
    rw [skw hv l3 true hr] at h1
    rw [List.length_append] at h1 ⊢; rw [List.length_append] at h1; omega)
   have hsk1 := skw hv l2 false (rest := 41 :: (wrL names true r ++ rest)) (.inr ⟨_, rfl⟩)
   have hsk2 := skw hv l3 true hr
   have e1 : nmA names x.Label ++ (40 :: (wrL names false x.Kids ++ (41 :: (wrL names true r ++ rest)))) = c :: (q ++ (40 :: (wrL names false x.Kids ++ (41 :: (wrL names true r ++ rest))))) := by rw [e]; rfl
   rw [e1]
   rw [e1] at t1 t2
   simp only [PL, if_neg (fun z => z.elim h0 h41 : ¬ (c = 0 ∨ c = 41))]
   rw [t1, t2, if_pos ⟨n2, by rw [n3]; exact l1.1⟩, n3, skp_cons, if_neg (by decide)]
   dsimp only
   rw [if_pos rfl, hsk1, hin1]
   dsimp only
   rw [if_pos rfl, hsk2]
   have hxe : (⟨x.Label, x.Kids⟩ : Node) = x := hx _ rfl rfl
   rw [hxe, List.append_assoc, List.singleton_append] at hin2
   rw [List.nil_append, hxe]
   exact hin2
theorem back_eq {a : Int} {names : List Str} {h : List Node} (c : vld a h = true) (d : nmB names a = true) (hs : ((wrL names false h).length : Int) ≤ 16384) : pP a names (wrL names false h) = (h, 0) := by
 obtain ⟨c1, c2, c3⟩ := vld_le c
 unfold pP
 rw [if_pos c1, if_pos d, if_neg (by omega)]
 unfold PP
 have e1 := skw d c3 false (rest := []) (.inl rfl)
 have e2 := rt d (nsL h + 1) h (by omega) c3 ((wrL names false h).length + 1) [] [] (.inl rfl) (by simp)
 rw [List.append_nil] at e1 e2
 rw [e1, e2, List.nil_append]
 dsimp only
 rw [if_neg (by omega)]
theorem PP_sz (a : Int) (names : List Str) (t : Str) : nsL (pP a names t).1 ≤ 300 := by
 unfold pP
 split
 ·split
  ·split
   ·rw [nsL]; omega
   ·unfold PP
    split
    ·split
     ·rw [nsL]; omega
     ·dsimp only; omega
    ·rw [nsL]; omega
  ·rw [nsL]; omega
 ·rw [nsL]; omega
theorem texts_law (m : Nat) (a : Int) (names : List Str) (h : List Node) (t : Str) (hd : dL h < m + 20010) (hl : h.length < 9223372036854775808) (hw : wdL h = true) : law02_HedgeTexts (m + 20010) a names h t = some true := by
 unfold law02_HedgeTexts
 rw [few_eq hd hl hw (by omega) (by omega), show m + 20010 = (m + 20000) + 10 from rfl, awake_eq, show m + 20000 + 10 = m + 20010 from rfl]
 simp only [Option.bind_some]
 by_cases c1 : (nsL h : Int) ≤ 2000
 ·rw [decide_eq_true c1]
  simp only [if_true]
  by_cases c2 : 40 < (names.length : Int)
  ·rw [if_pos c2]
  rw [if_neg c2]
  by_cases c3 : 20000 < (t.length : Int)
  ·rw [if_pos c3]
  rw [if_neg c3]
  obtain ⟨p1, p2⟩ := print_eq (a := a) (names := names) hd (by omega) hl hw (by omega)
  rw [p1, p2, parse_eq (by omega) (by omega), rparse_eq (by omega) (by omega)]
  simp only [Option.bind_some, if_true]
  have z := PP_sz a names t
  have z2 := dL_le (pP a names t).1
  rw [hsame_refl _ (pP a names t).1 (by omega) (by omega)]
  simp only [Option.bind_some, if_true]
  by_cases c4 : (prP a names h).2 = 0
  ·rw [if_pos c4]
   by_cases c5 : ((prP a names h).1.length : Int) ≤ 16384
   ·rw [if_pos c5, parse_eq (by omega) (by omega), Option.bind_some]
    unfold prP at c4 c5 ⊢
    split at c4
    ·rename_i c
     rw [if_pos c] at c5 ⊢
     split at c4
     ·rename_i d
      rw [if_pos d] at c5 ⊢
      dsimp only at c5 ⊢
      rw [back_eq c d c5]
      dsimp only
      obtain ⟨_, k2, _⟩ := vld_le c
      rw [if_pos rfl, hsame_refl _ h (by omega) (by omega)]
      rfl
     ·cases c4
    ·cases c4
   ·rw [if_neg c5]
  ·rw [if_neg c4]
 ·rw [decide_eq_false c1]
  rfl
end Go.AM.S02

namespace Go.AM.S02
open Go Go.Proofs Go.AM
theorem d9 : (T.at 9).d = .str := rfl
theorem d60 : (T.at 60).d = .sl 9 := rfl
theorem sz9 : (T.at 9).size = 1 := rfl
theorem wt9 {n : Nat} {cs : List PV} (h : wt T n 9 cs) : ∃ s : Str, cs = [.lit (.string (bs s))] := by
 cases n with
 | zero => exact h.elim
 | succ n =>
  unfold wt at h
  rw [d9] at h
  obtain ⟨s, rfl, _⟩ := h
  exact ⟨s.data.toList, by cases s; rfl⟩
theorem wt60 {n : Nat} {cs : List PV} (h : wt T n 60 cs) : ∃ xs : List Str, cs = [.sl none 1 (xs.map rowS)] := by
 obtain ⟨xs, e, hl, hx⟩ := wt_slM (row := rowS) (P := fun _ => True) d60 h (fun m r _ hr => by
  obtain ⟨s, e⟩ := wt9 hr
  exact ⟨s, e, trivial⟩)
 exact ⟨xs, by rw [e, sz9]⟩
theorem law7 (pss : List (List PV)) (h : wtAll T [3, 60, 22, 9] pss) : ∃ σ', call Try.prog T H (.fn 7) (argsOf T [3, 60, 22, 9] pss) [] = some (.ret (.p (.lit (.bool true))), σ') := by
 obtain ⟨p1, r1, rfl, ⟨n1, w1⟩, p2, r2, rfl, ⟨n2, w2⟩, p3, r3, rfl, ⟨n3, w3⟩, p4, r4, rfl, ⟨n4, w4⟩, rfl⟩ := h
 obtain ⟨a, rfl, _⟩ := wt_int d3 w1
 obtain ⟨names, rfl⟩ := wt60 w2
 obtain ⟨h, rfl, hl, hh⟩ := wt22 w3
 obtain ⟨s, rfl⟩ := wt9 w4
 have := spec7 (dL h + 20010) a names h s true (texts_law (dL h) a names h s (by omega) hl hh)
 exact ⟨[], this⟩
theorem closed7 : closedB T [3, 9, 22, 24, 60] = true := by decide +kernel
end Go.AM.S02

