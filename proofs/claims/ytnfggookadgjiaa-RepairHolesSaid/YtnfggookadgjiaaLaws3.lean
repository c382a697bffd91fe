/- What the functions of this seat compute on the abstract machine, function by function, and the plain laws. -/
import Derived.Test.YtnfggookadgjiaaLaws2
set_option linter.unusedVariables false
set_option linter.unusedSimpArgs false
namespace Go.AM.S22
open Go Go.Proofs Go.AM
set_option maxRecDepth 100000
set_option linter.unusedVariables false
set_option maxHeartbeats 4000000


def repair_Relabel (n : Nat) (a0 : Alphabet) (a1 : Automaton) (a2 : Tree) : Option (Int × Tree × Int) :=
  (auto_Valid a0 a1).bind fun v1 =>
  if v1 = true then
    (tree_Valid n a0 a2).bind fun v2 =>
    if v2 = true then
      (Rel.walk n a1 n a2 (none, 0)).bind fun v =>
      (v.1).bind fun w =>
      rangeL a1.Final ((-1), 0, ([] : List Tree)) (fun k1 i1 x1 (s1 : Int × Int × (List Tree)) n1 =>
        (idxM w.2.2 w.2.1 0).bind fun v4 =>
        (idx v4 x1).bind fun v5 =>
        if 0 ≤ v5.many then
          (repair_before n v5 (repair_labeled.mk s1.1 (Tree.mk s1.2.1 s1.2.2))).bind fun v6 =>
          if v6 = true then
            n1 (v5.many, v5.tree.Sym, v5.tree.Kids)
          else
            n1 (s1.1, s1.2.1, s1.2.2)
        else
          n1 (s1.1, s1.2.1, s1.2.2)) fun s1 =>
      if s1.1 < 0 then
        some (0, (Tree.mk 0 ([] : List Tree)), 5)
      else
        (repair_copied n (Tree.mk s1.2.1 s1.2.2)).bind fun v3 =>
        some (s1.1, v3, 0)
    else
      some (0, (Tree.mk 0 ([] : List Tree)), 1)
  else
    some (0, (Tree.mk 0 ([] : List Tree)), 1)
theorem spec10 (n : Nat) (a0 : Alphabet) (a1 : Automaton) (a2 : Tree) (r : Int × Tree × Int) (h : repair_Relabel n a0 a1 a2 = some r) :
    call Try.prog T H (.fn 10) [.p (.agg [.sl none 1 (List.map rowI a0.Ranks)]), .p (.agg [iv a1.States, .sl none 1 (List.map rowI a1.Final), .sl none 3 (List.map row_Rule a1.Rules)]), .p (.agg [iv a2.Sym, .sl none 2 (List.map row_Tree a2.Kids)])] [] = some (.ret (.p (.tup [iv r.1, .agg [iv r.2.1.Sym, .sl none 2 (List.map row_Tree r.2.1.Kids)], iv r.2.2])), []) := by
  refine Sat.fn fun Q hQ => ?_
  unfold repair_Relabel at h
  rw [call10, cf10]
  conv => arg 1; arg 7; unfold S22.c10 Try.f10; simp only [Option.getD_some, foldR, if_true]
  obtain ⟨v1, e_v1, h⟩ := ob h
  have e_v1c : call Try.prog T H (.fn 28) [.p (.agg [.sl none 1 (List.map rowI a0.Ranks)]), .p (.agg [iv a1.States, .sl none 1 (List.map rowI a1.Final), .sl none 3 (List.map row_Rule a1.Rules)])] [] = some (.ret (.p (bv v1)), []) := spec28 a0 a1 v1 e_v1
  by_cases c1 : v1 = true
  · have h := iteT h c1
    obtain ⟨v2, e_v2, h⟩ := ob h
    have e_v2c : call Try.prog T H (.fn 29) [.p (.agg [.sl none 1 (List.map rowI a0.Ranks)]), .p (.agg [iv a2.Sym, .sl none 2 (List.map row_Tree a2.Kids)])] [] = some (.ret (.p (bv v2)), []) := spec29 n a0 a2 v2 e_v2
    by_cases c2 : v2 = true
    · have h := iteT h c2
      simp only [go_sem, e_v1c, c1, e_v2c, c2]
      refine Sat.callc ?_
      rw [call30]
      conv => arg 1; arg 7; unfold S22.c30 Try.f30; simp only [Option.getD_some]
      simp only [go_sem]
      refine Sat.ok ?_
      obtain ⟨v, e_v, h⟩ := ob h
      obtain ⟨w, e_w, h⟩ := ob h
      simp only [go_sem, e_v1c, c1, e_v2c, c2]
      have q : ∀ E c0 c2 c3 c6, get E 4 = .ptr 1 0 → get E 9 = .ptr 5 0 → ltVis 7 E = true → call Try.prog T H (.fn 65) [.p (.agg [iv a2.Sym, .sl none 2 (List.map row_Tree a2.Kids)]), .ptr 10 0, .ptr 9 0, .ptr 8 0] [c0, .cells [.p (iv a1.States), .p (.sl none 1 (List.map rowI a1.Final)), .p (.sl none 3 (List.map row_Rule a1.Rules))], c2, c3, .dead, .cells [.nms 4 1], c6, .loop 0 none 128 10 E [36, 37] A10_0 B10_0, .cells [.yld 7], .cells [.p (iv 0)], .cells [.fn 65 [.ptr 10 0, .ptr 9 0, .ptr 8 0]]] = some (.ret (.p (bv true)), [c0, .cells [.p (iv a1.States), .p (.sl none 1 (List.map rowI a1.Final)), .p (.sl none 3 (List.map row_Rule a1.Rules))], c2, c3, .arr w.1 1 (List.map (rowA (rowL 3 row_repair_labeled)) w.2.1), .cells [.ms 4 w.1 1 0 w.2.2], c6, .loop 0 none 128 10 E [36, 37] A10_0 B10_0, .cells [.yld 7], .cells [.p (iv v.2)], .cells [.fn 65 [.ptr 10 0, .ptr 9 0, .ptr 8 0]]]) := fun E c0 c2 c3 c6 h4 h9 hE => by
        have q := Rel.spec65 h4 h9 (ltVis_iff.1 hE) n a1 n [c0, .cells [.p (iv a1.States), .p (.sl none 1 (List.map rowI a1.Final)), .p (.sl none 3 (List.map row_Rule a1.Rules))], c2, c3, .dead, .cells [.nms 4 1], c6, .loop 0 none 128 10 E [36, 37] A10_0 B10_0, .cells [.yld 7], .cells [.p (iv 0)], .cells [.fn 65 [.ptr 10 0, .ptr 9 0, .ptr 8 0]]] ⟨by simp, rfl, rfl, rfl, rfl⟩ a2 (none, 0) v e_v
        have e1 : Rel.wS [c0, .cells [.p (iv a1.States), .p (.sl none 1 (List.map rowI a1.Final)), .p (.sl none 3 (List.map row_Rule a1.Rules))], c2, c3, .dead, .cells [.nms 4 1], c6, .loop 0 none 128 10 E [36, 37] A10_0 B10_0, .cells [.yld 7], .cells [.p (iv 0)], .cells [.fn 65 [.ptr 10 0, .ptr 9 0, .ptr 8 0]]] v = [c0, .cells [.p (iv a1.States), .p (.sl none 1 (List.map rowI a1.Final)), .p (.sl none 3 (List.map row_Rule a1.Rules))], c2, c3, .arr w.1 1 (List.map (rowA (rowL 3 row_repair_labeled)) w.2.1), .cells [.ms 4 w.1 1 0 w.2.2], c6, .loop 0 none 128 10 E [36, 37] A10_0 B10_0, .cells [.yld 7], .cells [.p (iv v.2)], .cells [.fn 65 [.ptr 10 0, .ptr 9 0, .ptr 8 0]]] := by unfold Rel.wS Rel.yS; rw [e_w]; rfl
        rw [e1] at q; exact q
      refine Sat.callrange ?_
      rw [call64]
      conv => arg 1; arg 7; unfold S22.c64 Try.f64; simp only [Option.getD_some]
      simp only [go_sem, q, ltVis, List.all_cons, List.all_nil]
      refine Sat.ok ?_
      try simp only [go_sem, rangeK_ok, atLoop_some, pendK_none]
      try simp only [go_sem, e_v1c, c1, e_v2c, c2]
      refine run_rangeL (c := L10_6) (live := [7, 9, 19, 97, 98, 99]) (by simp only [go_sem]) (M := fun i1 (s1 : Int × Int × (List Tree)) => [(7, .ptr 3 0), (9, .ptr 5 0), (19, .ptr 7 0), (97, .p (.sl none 1 (List.map rowI a1.Final))), (98, .p (iv (a1.Final.length : Int))), (99, .p (iv (i1 : Int)))]) (Z := fun i1 (s1 : Int × Int × (List Tree)) => [.cells [.p (.sl none 1 (List.map rowI a0.Ranks))], .cells [.p (iv a1.States), .p (.sl none 1 (List.map rowI a1.Final)), .p (.sl none 3 (List.map row_Rule a1.Rules))], .cells [.p (iv a2.Sym), .p (.sl none 2 (List.map row_Tree a2.Kids))], .cells [.p (iv 0), .own 2 []], .arr w.1 1 (List.map (rowA (rowL 3 row_repair_labeled)) w.2.1), .cells [.ms 4 w.1 1 0 w.2.2], .cells [.p (iv a2.Sym), .p (.sl none 2 (List.map row_Tree a2.Kids))], .cells [.p (iv s1.1), .p (iv s1.2.1), .p (.sl none 2 (List.map row_Tree s1.2.2))]]) (N := fun (s1 : Int × Int × (List Tree)) => ⟨[(7, .ptr 3 0), (19, .ptr 7 0)], [.cells [.p (.sl none 1 (List.map rowI a0.Ranks))], .cells [.p (iv a1.States), .p (.sl none 1 (List.map rowI a1.Final)), .p (.sl none 3 (List.map row_Rule a1.Rules))], .cells [.p (iv a2.Sym), .p (.sl none 2 (List.map row_Tree a2.Kids))], .cells [.p (iv 0), .own 2 []], .arr w.1 1 (List.map (rowA (rowL 3 row_repair_labeled)) w.2.1), .cells [.ms 4 w.1 1 0 w.2.2], .cells [.p (iv a2.Sym), .p (.sl none 2 (List.map row_Tree a2.Kids))], .cells [.p (iv s1.1), .p (iv s1.2.1), .p (.sl none 2 (List.map row_Tree s1.2.2))]], [], none, false⟩) h rfl rfl (fun _ _ => rfl) ?_ ?_ ?_
      · intro s1 h
        try dsimp only at h ⊢
        by_cases c3 : s1.1 < 0
        · have h := iteT h c3
          simp only [go_sem, c3]
          injection h with h; subst h
          exact Sat.ok hQ
        · have h := iteF h c3
          obtain ⟨v3, e_v3, h⟩ := ob h
          have e_v3c : call Try.prog T H (.fn 33) [.p (.agg [iv s1.2.1, .sl none 2 (List.map row_Tree s1.2.2)])] [] = some (.ret (.p (.agg [iv v3.Sym, .sl none 2 (List.map row_Tree v3.Kids)])), []) := spec33 n (Tree.mk s1.2.1 s1.2.2) v3 e_v3
          simp only [go_sem, c3, e_v3c]
          injection h with h; subst h
          exact Sat.ok hQ
      · intro K1 s1 hb1 he1
        try dsimp only
        conv => arg 1; arg 7; unfold L10_6 loopAt S22.c10 Try.f10; simp only [loopIn, Option.getD_some, if_true]
        simp only [go_sem, he1]
        exact hb1
      · intro K1 k1 i1 x1 s1 n1 hR1 hE1 hb1 hx1 hi1 hw1 ih1 h
        try dsimp only at h ⊢
        conv => arg 1; arg 7; unfold L10_6 loopAt S22.c10 Try.f10; simp only [loopIn, Option.getD_some, if_true]
        obtain ⟨v4, e_v4, h⟩ := ob h
        obtain ⟨e_v4a, e_v4b, e_v4d⟩ := idxM_some e_v4
        simp only [Int.reduceToNat] at e_v4b
        simp only [Int.reduceToNat] at e_v4d
        obtain ⟨v5, e_v5, h⟩ := ob h
        obtain ⟨e_v5a, e_v5b⟩ := idx_some e_v5
        by_cases c4 : 0 ≤ v5.many
        · have h := iteT h c4
          obtain ⟨v6, e_v6, h⟩ := ob h
          have e_v6c : call Try.prog T H (.fn 32) [.p (.agg [iv v5.many, iv v5.tree.Sym, .sl none 2 (List.map row_Tree v5.tree.Kids)]), .p (.agg [iv s1.1, iv s1.2.1, .sl none 2 (List.map row_Tree s1.2.2)])] [] = some (.ret (.p (bv v6)), []) := spec32 n v5 (repair_labeled.mk s1.1 (Tree.mk s1.2.1 s1.2.2)) v6 e_v6
          by_cases c5 : v6 = true
          · have h := iteT h c5
            simp only [go_sem, hx1, hi1, hw1, e_v4b, e_v4d, e_v5a, e_v5b, c4, e_v6c, c5, hR1, hE1]
            exact ih1 (v5.many, v5.tree.Sym, v5.tree.Kids) h
          · have h := iteF h c5
            have c5 := eq_false_of_ne_true c5
            simp only [go_sem, hx1, hi1, hw1, e_v4b, e_v4d, e_v5a, e_v5b, c4, e_v6c, c5, hR1, hE1]
            exact ih1 (s1.1, s1.2.1, s1.2.2) h
        · have h := iteF h c4
          simp only [go_sem, hx1, hi1, hw1, e_v4b, e_v4d, e_v5a, e_v5b, c4, hR1, hE1]
          exact ih1 (s1.1, s1.2.1, s1.2.2) h
    · have h := iteF h c2
      have c2 := eq_false_of_ne_true c2
      simp only [go_sem, e_v1c, c1, e_v2c, c2]
      injection h with h; subst h
      exact Sat.ok hQ
  · have h := iteF h c1
    have c1 := eq_false_of_ne_true c1
    simp only [go_sem, e_v1c, c1]
    injection h with h; subst h
    exact Sat.ok hQ

def repair_Holes (n : Nat) (a0 : Alphabet) (a1 : Automaton) (a2 : Tree) : Option ((List (List Int)) × Int) :=
  (auto_Valid a0 a1).bind fun v1 =>
  if v1 = true then
    (tree_Valid n a0 a2).bind fun v2 =>
    if v2 = true then
      (empty_Sizes a0 a1).bind fun v3 =>
      if v3.2 = 0 then
        (Hol.walk n a1 v3.1 n a2 (none, 0)).bind fun v =>
        (v.1).bind fun w =>
        rangeL a1.Final (false, 0, ([] : List (List Int))) (fun k1 i1 x1 (s1 : Bool × Int × (List (List Int))) n1 =>
          (idxM w.2.2 w.2.1 0).bind fun v4 =>
          (idx v4 x1).bind fun v5 =>
          if v5.ok = true then
            (repair_fewer (repair_holes.mk true v5.gone v5.list) (repair_holes.mk s1.1 s1.2.1 s1.2.2)).bind fun v6 =>
            if v6 = true then
              n1 (true, v5.gone, v5.list)
            else
              n1 (s1.1, s1.2.1, s1.2.2)
          else
            n1 (s1.1, s1.2.1, s1.2.2)) fun s1 =>
        if s1.1 = true then
          some (s1.2.2, 0)
        else
          some (([] : List (List Int)), 5)
      else
        some (([] : List (List Int)), v3.2)
    else
      some (([] : List (List Int)), 1)
  else
    some (([] : List (List Int)), 1)
theorem spec13 (n : Nat) (a0 : Alphabet) (a1 : Automaton) (a2 : Tree) (r : (List (List Int)) × Int) (h : repair_Holes n a0 a1 a2 = some r) :
    call Try.prog T H (.fn 13) [.p (.agg [.sl none 1 (List.map rowI a0.Ranks)]), .p (.agg [iv a1.States, .sl none 1 (List.map rowI a1.Final), .sl none 3 (List.map row_Rule a1.Rules)]), .p (.agg [iv a2.Sym, .sl none 2 (List.map row_Tree a2.Kids)])] [] = some (.ret (.p (.tup [.sl none 1 (List.map (rowL 1 rowI) r.1), iv r.2])), []) := by
  refine Sat.fn fun Q hQ => ?_
  unfold repair_Holes at h
  rw [call13, cf13]
  conv => arg 1; arg 7; unfold S22.c13 Try.f13; simp only [Option.getD_some, foldR, if_true]
  obtain ⟨v1, e_v1, h⟩ := ob h
  have e_v1c : call Try.prog T H (.fn 28) [.p (.agg [.sl none 1 (List.map rowI a0.Ranks)]), .p (.agg [iv a1.States, .sl none 1 (List.map rowI a1.Final), .sl none 3 (List.map row_Rule a1.Rules)])] [] = some (.ret (.p (bv v1)), []) := spec28 a0 a1 v1 e_v1
  by_cases c1 : v1 = true
  · have h := iteT h c1
    obtain ⟨v2, e_v2, h⟩ := ob h
    have e_v2c : call Try.prog T H (.fn 29) [.p (.agg [.sl none 1 (List.map rowI a0.Ranks)]), .p (.agg [iv a2.Sym, .sl none 2 (List.map row_Tree a2.Kids)])] [] = some (.ret (.p (bv v2)), []) := spec29 n a0 a2 v2 e_v2
    by_cases c2 : v2 = true
    · have h := iteT h c2
      obtain ⟨v3, e_v3, h⟩ := ob h
      have e_v3c : call Try.prog T H (.fn 37) [.p (.agg [.sl none 1 (List.map rowI a0.Ranks)]), .p (.agg [iv a1.States, .sl none 1 (List.map rowI a1.Final), .sl none 3 (List.map row_Rule a1.Rules)])] [] = some (.ret (.p (.tup [.sl none 1 (List.map rowI v3.1), iv v3.2])), []) := spec37 a0 a1 v3 e_v3
      by_cases c3 : v3.2 = 0
      · have h := iteT h c3
        have c3b : (v3.2 != 0) = false := bneF c3
        simp only [go_sem, e_v1c, c1, e_v2c, c2, e_v3c, c3b]
        refine Sat.callc ?_
        rw [call30]
        conv => arg 1; arg 7; unfold S22.c30 Try.f30; simp only [Option.getD_some]
        simp only [go_sem]
        refine Sat.ok ?_
        obtain ⟨v, e_v, h⟩ := ob h
        obtain ⟨w, e_w, h⟩ := ob h
        simp only [go_sem, e_v1c, c1, e_v2c, c2, e_v3c, c3b]
        have q : ∀ E c0 c2 c6, get E 4 = .ptr 1 0 → get E 10 = .ptr 5 0 → get E 8 = .ptr 3 0 → ltVis 7 E = true → call Try.prog T H (.fn 65) [.p (.agg [iv a2.Sym, .sl none 2 (List.map row_Tree a2.Kids)]), .ptr 10 0, .ptr 9 0, .ptr 8 0] [c0, .cells [.p (iv a1.States), .p (.sl none 1 (List.map rowI a1.Final)), .p (.sl none 3 (List.map row_Rule a1.Rules))], c2, .cells [.p (.sl none 1 (List.map rowI v3.1))], .dead, .cells [.nms 4 1], c6, .loop 0 none 140 13 E [45, 46] A13_0 B13_0, .cells [.yld 7], .cells [.p (iv 0)], .cells [.fn 65 [.ptr 10 0, .ptr 9 0, .ptr 8 0]]] = some (.ret (.p (bv true)), [c0, .cells [.p (iv a1.States), .p (.sl none 1 (List.map rowI a1.Final)), .p (.sl none 3 (List.map row_Rule a1.Rules))], c2, .cells [.p (.sl none 1 (List.map rowI v3.1))], .arr w.1 1 (List.map (rowA (rowL 3 row_repair_holes)) w.2.1), .cells [.ms 4 w.1 1 0 w.2.2], c6, .loop 0 none 140 13 E [45, 46] A13_0 B13_0, .cells [.yld 7], .cells [.p (iv v.2)], .cells [.fn 65 [.ptr 10 0, .ptr 9 0, .ptr 8 0]]]) := fun E c0 c2 c6 h4 h9 h8 hE => by
          have q := Hol.spec65 h4 h9 h8 (ltVis_iff.1 hE) n a1 v3.1 n [c0, .cells [.p (iv a1.States), .p (.sl none 1 (List.map rowI a1.Final)), .p (.sl none 3 (List.map row_Rule a1.Rules))], c2, .cells [.p (.sl none 1 (List.map rowI v3.1))], .dead, .cells [.nms 4 1], c6, .loop 0 none 140 13 E [45, 46] A13_0 B13_0, .cells [.yld 7], .cells [.p (iv 0)], .cells [.fn 65 [.ptr 10 0, .ptr 9 0, .ptr 8 0]]] ⟨by simp, rfl, rfl, rfl, rfl, rfl⟩ a2 (none, 0) v e_v
          have e1 : Hol.wS [c0, .cells [.p (iv a1.States), .p (.sl none 1 (List.map rowI a1.Final)), .p (.sl none 3 (List.map row_Rule a1.Rules))], c2, .cells [.p (.sl none 1 (List.map rowI v3.1))], .dead, .cells [.nms 4 1], c6, .loop 0 none 140 13 E [45, 46] A13_0 B13_0, .cells [.yld 7], .cells [.p (iv 0)], .cells [.fn 65 [.ptr 10 0, .ptr 9 0, .ptr 8 0]]] v = [c0, .cells [.p (iv a1.States), .p (.sl none 1 (List.map rowI a1.Final)), .p (.sl none 3 (List.map row_Rule a1.Rules))], c2, .cells [.p (.sl none 1 (List.map rowI v3.1))], .arr w.1 1 (List.map (rowA (rowL 3 row_repair_holes)) w.2.1), .cells [.ms 4 w.1 1 0 w.2.2], c6, .loop 0 none 140 13 E [45, 46] A13_0 B13_0, .cells [.yld 7], .cells [.p (iv v.2)], .cells [.fn 65 [.ptr 10 0, .ptr 9 0, .ptr 8 0]]] := by unfold Hol.wS Hol.yS; rw [e_w]; rfl
          rw [e1] at q; exact q
        refine Sat.callrange ?_
        rw [call64]
        conv => arg 1; arg 7; unfold S22.c64 Try.f64; simp only [Option.getD_some]
        simp only [go_sem, q, ltVis, List.all_cons, List.all_nil]
        refine Sat.ok ?_
        try simp only [go_sem, rangeK_ok, atLoop_some, pendK_none]
        try simp only [go_sem, e_v1c, c1, e_v2c, c2, e_v3c, c3b]
        refine run_rangeL (c := L13_6) (live := [10, 20, 114, 115, 116]) (by simp only [go_sem]) (M := fun i1 (s1 : Bool × Int × (List (List Int))) => [(10, .ptr 5 0), (20, .ptr 7 0), (114, .p (.sl none 1 (List.map rowI a1.Final))), (115, .p (iv (a1.Final.length : Int))), (116, .p (iv (i1 : Int)))]) (Z := fun i1 (s1 : Bool × Int × (List (List Int))) => [.cells [.p (.sl none 1 (List.map rowI a0.Ranks))], .cells [.p (iv a1.States), .p (.sl none 1 (List.map rowI a1.Final)), .p (.sl none 3 (List.map row_Rule a1.Rules))], .cells [.p (iv a2.Sym), .p (.sl none 2 (List.map row_Tree a2.Kids))], .cells [.p (.sl none 1 (List.map rowI v3.1))], .arr w.1 1 (List.map (rowA (rowL 3 row_repair_holes)) w.2.1), .cells [.ms 4 w.1 1 0 w.2.2], .cells [.p (iv a2.Sym), .p (.sl none 2 (List.map row_Tree a2.Kids))], .cells [.p (bv s1.1), .p (iv s1.2.1), .p (.sl none 1 (List.map (rowL 1 rowI) s1.2.2))]]) (N := fun (s1 : Bool × Int × (List (List Int))) => ⟨[(20, .ptr 7 0)], [.cells [.p (.sl none 1 (List.map rowI a0.Ranks))], .cells [.p (iv a1.States), .p (.sl none 1 (List.map rowI a1.Final)), .p (.sl none 3 (List.map row_Rule a1.Rules))], .cells [.p (iv a2.Sym), .p (.sl none 2 (List.map row_Tree a2.Kids))], .cells [.p (.sl none 1 (List.map rowI v3.1))], .arr w.1 1 (List.map (rowA (rowL 3 row_repair_holes)) w.2.1), .cells [.ms 4 w.1 1 0 w.2.2], .cells [.p (iv a2.Sym), .p (.sl none 2 (List.map row_Tree a2.Kids))], .cells [.p (bv s1.1), .p (iv s1.2.1), .p (.sl none 1 (List.map (rowL 1 rowI) s1.2.2))]], [], none, false⟩) h rfl rfl (fun _ _ => rfl) ?_ ?_ ?_
        · intro s1 h
          try dsimp only at h ⊢
          by_cases c4 : s1.1 = true
          · have h := iteT h c4
            simp only [go_sem, c4]
            injection h with h; subst h
            exact Sat.ok hQ
          · have h := iteF h c4
            have c4 := eq_false_of_ne_true c4
            simp only [go_sem, c4]
            injection h with h; subst h
            exact Sat.ok hQ
        · intro K1 s1 hb1 he1
          try dsimp only
          conv => arg 1; arg 7; unfold L13_6 loopAt S22.c13 Try.f13; simp only [loopIn, Option.getD_some, if_true]
          simp only [go_sem, he1]
          exact hb1
        · intro K1 k1 i1 x1 s1 n1 hR1 hE1 hb1 hx1 hi1 hw1 ih1 h
          try dsimp only at h ⊢
          conv => arg 1; arg 7; unfold L13_6 loopAt S22.c13 Try.f13; simp only [loopIn, Option.getD_some, if_true]
          obtain ⟨v4, e_v4, h⟩ := ob h
          obtain ⟨e_v4a, e_v4b, e_v4d⟩ := idxM_some e_v4
          simp only [Int.reduceToNat] at e_v4b
          simp only [Int.reduceToNat] at e_v4d
          obtain ⟨v5, e_v5, h⟩ := ob h
          obtain ⟨e_v5a, e_v5b⟩ := idx_some e_v5
          by_cases c5 : v5.ok = true
          · have h := iteT h c5
            obtain ⟨v6, e_v6, h⟩ := ob h
            have e_v6c : call Try.prog T H (.fn 40) [.p (.agg [bv true, iv v5.gone, .sl none 1 (List.map (rowL 1 rowI) v5.list)]), .p (.agg [bv s1.1, iv s1.2.1, .sl none 1 (List.map (rowL 1 rowI) s1.2.2)])] [] = some (.ret (.p (bv v6)), []) := spec40 (repair_holes.mk true v5.gone v5.list) (repair_holes.mk s1.1 s1.2.1 s1.2.2) v6 e_v6
            by_cases c6 : v6 = true
            · have h := iteT h c6
              simp only [go_sem, hx1, hi1, hw1, e_v4b, e_v4d, e_v5a, e_v5b, c5, e_v6c, c6, hR1, hE1]
              exact ih1 (true, v5.gone, v5.list) h
            · have h := iteF h c6
              have c6 := eq_false_of_ne_true c6
              simp only [go_sem, hx1, hi1, hw1, e_v4b, e_v4d, e_v5a, e_v5b, c5, e_v6c, c6, hR1, hE1]
              exact ih1 (s1.1, s1.2.1, s1.2.2) h
          · have h := iteF h c5
            have c5 := eq_false_of_ne_true c5
            simp only [go_sem, hx1, hi1, hw1, e_v4b, e_v4d, e_v5a, e_v5b, c5, hR1, hE1]
            exact ih1 (s1.1, s1.2.1, s1.2.2) h
      · have h := iteF h c3
        have c3b : (v3.2 != 0) = true := bneT c3
        simp only [go_sem, e_v1c, c1, e_v2c, c2, e_v3c, c3b]
        injection h with h; subst h
        exact Sat.ok hQ
    · have h := iteF h c2
      have c2 := eq_false_of_ne_true c2
      simp only [go_sem, e_v1c, c1, e_v2c, c2]
      injection h with h; subst h
      exact Sat.ok hQ
  · have h := iteF h c1
    have c1 := eq_false_of_ne_true c1
    simp only [go_sem, e_v1c, c1]
    injection h with h; subst h
    exact Sat.ok hQ

def law22_awake (n : Nat)  : Option Bool :=
  (repair_Relabel n (Alphabet.mk [0, 0, 2]) (Automaton.mk 1 [0] [(Rule.mk 1 ([] : List Int) 0), (Rule.mk 2 [0, 0] 0)]) (Tree.mk 2 [(Tree.mk 0 ([] : List Tree)), (Tree.mk 2 [(Tree.mk 1 ([] : List Tree)), (Tree.mk 0 ([] : List Tree))])])).bind fun v1 =>
  (repair_Holes n (Alphabet.mk [0, 0, 2]) (Automaton.mk 1 [0] [(Rule.mk 1 ([] : List Int) 0), (Rule.mk 2 [0, 0] 0)]) (Tree.mk 2 [(Tree.mk 0 ([] : List Tree)), (Tree.mk 2 [(Tree.mk 1 ([] : List Tree)), (Tree.mk 0 ([] : List Tree))])])).bind fun v2 =>
  if v1.2.2 = 0 then
    if v1.1 = 2 then
      (ref01_Same n v1.2.1 (Tree.mk 2 [(Tree.mk 1 ([] : List Tree)), (Tree.mk 2 [(Tree.mk 1 ([] : List Tree)), (Tree.mk 1 ([] : List Tree))])])).bind fun v3 =>
      if v3 = true then
        if v2.2 = 0 then
          (ref01_SameLists v2.1 [[0], [1, 1]]).bind fun v4 =>
          some v4
        else
          some false
      else
        some false
    else
      some false
  else
    some false
theorem spec9 (n : Nat)  (r : Bool) (h : law22_awake n = some r) :
    call Try.prog T H (.fn 9) [] [] = some (.ret (.p (bv r)), []) := by
  refine Sat.fn fun Q hQ => ?_
  unfold law22_awake at h
  rw [call9]
  conv => arg 1; arg 7; unfold S22.c9 Try.f9; simp only [Option.getD_some]
  obtain ⟨v1, e_v1, h⟩ := ob h
  have e_v1c : call Try.prog T H (.fn 10) [.p (.agg [.sl none 1 [[iv 0], [iv 0], [iv 2]]]), .p (.agg [iv 1, .sl none 1 [[iv 0]], .sl none 3 [[iv 1, .sl none 1 [], iv 0], [iv 2, .sl none 1 [[iv 0], [iv 0]], iv 0]]]), .p (.agg [iv 2, .sl none 2 [[iv 0, .sl none 2 []], [iv 2, .sl none 2 [[iv 1, .sl none 2 []], [iv 0, .sl none 2 []]]]]])] [] = some (.ret (.p (.tup [iv v1.1, .agg [iv v1.2.1.Sym, .sl none 2 (List.map row_Tree v1.2.1.Kids)], iv v1.2.2])), []) := by have q := spec10 n (Alphabet.mk [0, 0, 2]) (Automaton.mk 1 [0] [(Rule.mk 1 ([] : List Int) 0), (Rule.mk 2 [0, 0] 0)]) (Tree.mk 2 [(Tree.mk 0 ([] : List Tree)), (Tree.mk 2 [(Tree.mk 1 ([] : List Tree)), (Tree.mk 0 ([] : List Tree))])]) v1 e_v1; simp only [List.map_cons, List.map_nil, rowI, row_Rule_eq, row_Tree_eq] at q ⊢; exact q
  obtain ⟨v2, e_v2, h⟩ := ob h
  have e_v2c : call Try.prog T H (.fn 13) [.p (.agg [.sl none 1 [[iv 0], [iv 0], [iv 2]]]), .p (.agg [iv 1, .sl none 1 [[iv 0]], .sl none 3 [[iv 1, .sl none 1 [], iv 0], [iv 2, .sl none 1 [[iv 0], [iv 0]], iv 0]]]), .p (.agg [iv 2, .sl none 2 [[iv 0, .sl none 2 []], [iv 2, .sl none 2 [[iv 1, .sl none 2 []], [iv 0, .sl none 2 []]]]]])] [] = some (.ret (.p (.tup [.sl none 1 (List.map (rowL 1 rowI) v2.1), iv v2.2])), []) := by have q := spec13 n (Alphabet.mk [0, 0, 2]) (Automaton.mk 1 [0] [(Rule.mk 1 ([] : List Int) 0), (Rule.mk 2 [0, 0] 0)]) (Tree.mk 2 [(Tree.mk 0 ([] : List Tree)), (Tree.mk 2 [(Tree.mk 1 ([] : List Tree)), (Tree.mk 0 ([] : List Tree))])]) v2 e_v2; simp only [List.map_cons, List.map_nil, rowI, row_Rule_eq, row_Tree_eq] at q ⊢; exact q
  by_cases c1 : v1.2.2 = 0
  · have h := iteT h c1
    have c1b : (v1.2.2 == 0) = true := beqT c1
    by_cases c2 : v1.1 = 2
    · have h := iteT h c2
      have c2b : (v1.1 == 2) = true := beqT c2
      obtain ⟨v3, e_v3, h⟩ := ob h
      have e_v3c : call Try.prog T H (.fn 12) [.p (.agg [iv v1.2.1.Sym, .sl none 2 (List.map row_Tree v1.2.1.Kids)]), .p (.agg [iv 2, .sl none 2 [[iv 1, .sl none 2 []], [iv 2, .sl none 2 [[iv 1, .sl none 2 []], [iv 1, .sl none 2 []]]]]])] [] = some (.ret (.p (bv v3)), []) := by have q := spec12 n v1.2.1 (Tree.mk 2 [(Tree.mk 1 ([] : List Tree)), (Tree.mk 2 [(Tree.mk 1 ([] : List Tree)), (Tree.mk 1 ([] : List Tree))])]) v3 e_v3; simp only [List.map_cons, List.map_nil, row_Tree_eq] at q ⊢; exact q
      by_cases c3 : v3 = true
      · have h := iteT h c3
        by_cases c4 : v2.2 = 0
        · have h := iteT h c4
          have c4b : (v2.2 == 0) = true := beqT c4
          obtain ⟨v4, e_v4, h⟩ := ob h
          have e_v4c : call Try.prog T H (.fn 15) [.p (.sl none 1 (List.map (rowL 1 rowI) v2.1)), .p (.sl none 1 [[.sl none 1 [[iv 0]]], [.sl none 1 [[iv 1], [iv 1]]]])] [] = some (.ret (.p (bv v4)), []) := by have q := spec15 v2.1 [[0], [1, 1]] v4 e_v4; simp only [List.map_cons, List.map_nil, rowI, rowL] at q ⊢; exact q
          simp only [go_sem, e_v1c, e_v2c, c1b, c2b, e_v3c, c3, c4b, e_v4c]
          injection h with h; subst h
          exact Sat.ok hQ
        · have h := iteF h c4
          have c4b : (v2.2 == 0) = false := beqF c4
          simp only [go_sem, e_v1c, e_v2c, c1b, c2b, e_v3c, c3, c4b]
          injection h with h; subst h
          exact Sat.ok hQ
      · have h := iteF h c3
        have c3 := eq_false_of_ne_true c3
        simp only [go_sem, e_v1c, e_v2c, c1b, c2b, e_v3c, c3]
        injection h with h; subst h
        exact Sat.ok hQ
    · have h := iteF h c2
      have c2b : (v1.1 == 2) = false := beqF c2
      simp only [go_sem, e_v1c, e_v2c, c1b, c2b]
      injection h with h; subst h
      exact Sat.ok hQ
  · have h := iteF h c1
    have c1b : (v1.2.2 == 0) = false := beqF c1
    simp only [go_sem, e_v1c, e_v2c, c1b]
    injection h with h; subst h
    exact Sat.ok hQ

def law22_RepairRelabels (n : Nat) (a0 : Alphabet) (a1 : Automaton) (a2 : Tree) : Option Bool :=
  (law22_few n a0 a1 [a2]).bind fun v1 =>
  if v1 = true then
    (repair_Relabel n a0 a1 a2).bind fun v2 =>
    (ref22_Relabel n a0 a1 a2).bind fun v3 =>
    if v2.1 = v3.1 then
      if v2.2.2 = v3.2.2 then
        (ref01_Same n v2.2.1 v3.2.1).bind fun v4 =>
        if v4 = true then
          (law22_awake n).bind fun v5 =>
          some v5
        else
          some false
      else
        some false
    else
      some false
  else
    (law22_awake n).bind fun v6 =>
    some v6
theorem spec3 (n : Nat) (a0 : Alphabet) (a1 : Automaton) (a2 : Tree) (r : Bool) (h : law22_RepairRelabels n a0 a1 a2 = some r) :
    call Try.prog T H (.fn 3) [.p (.agg [.sl none 1 (List.map rowI a0.Ranks)]), .p (.agg [iv a1.States, .sl none 1 (List.map rowI a1.Final), .sl none 3 (List.map row_Rule a1.Rules)]), .p (.agg [iv a2.Sym, .sl none 2 (List.map row_Tree a2.Kids)])] [] = some (.ret (.p (bv r)), []) := by
  refine Sat.fn fun Q hQ => ?_
  unfold law22_RepairRelabels at h
  rw [call3]
  conv => arg 1; arg 7; unfold S22.c3 Try.f3; simp only [Option.getD_some]
  obtain ⟨v1, e_v1, h⟩ := ob h
  have e_v1c : call Try.prog T H (.fn 8) [.p (.agg [.sl none 1 (List.map rowI a0.Ranks)]), .p (.agg [iv a1.States, .sl none 1 (List.map rowI a1.Final), .sl none 3 (List.map row_Rule a1.Rules)]), .p (.sl none 2 [[iv a2.Sym, .sl none 2 (List.map row_Tree a2.Kids)]])] [] = some (.ret (.p (bv v1)), []) := by have q := spec8 n a0 a1 [a2] v1 e_v1; simp only [List.map_cons, List.map_nil, row_Tree_eq] at q ⊢; exact q
  by_cases c1 : v1 = true
  · have h := iteT h c1
    obtain ⟨v2, e_v2, h⟩ := ob h
    have e_v2c : call Try.prog T H (.fn 10) [.p (.agg [.sl none 1 (List.map rowI a0.Ranks)]), .p (.agg [iv a1.States, .sl none 1 (List.map rowI a1.Final), .sl none 3 (List.map row_Rule a1.Rules)]), .p (.agg [iv a2.Sym, .sl none 2 (List.map row_Tree a2.Kids)])] [] = some (.ret (.p (.tup [iv v2.1, .agg [iv v2.2.1.Sym, .sl none 2 (List.map row_Tree v2.2.1.Kids)], iv v2.2.2])), []) := spec10 n a0 a1 a2 v2 e_v2
    obtain ⟨v3, e_v3, h⟩ := ob h
    have e_v3c : call Try.prog T H (.fn 11) [.p (.agg [.sl none 1 (List.map rowI a0.Ranks)]), .p (.agg [iv a1.States, .sl none 1 (List.map rowI a1.Final), .sl none 3 (List.map row_Rule a1.Rules)]), .p (.agg [iv a2.Sym, .sl none 2 (List.map row_Tree a2.Kids)])] [] = some (.ret (.p (.tup [iv v3.1, .agg [iv v3.2.1.Sym, .sl none 2 (List.map row_Tree v3.2.1.Kids)], iv v3.2.2])), []) := spec11 n a0 a1 a2 v3 e_v3
    by_cases c2 : v2.1 = v3.1
    · have h := iteT h c2
      have c2b : (v2.1 == v3.1) = true := beqT c2
      by_cases c3 : v2.2.2 = v3.2.2
      · have h := iteT h c3
        have c3b : (v2.2.2 == v3.2.2) = true := beqT c3
        obtain ⟨v4, e_v4, h⟩ := ob h
        have e_v4c : call Try.prog T H (.fn 12) [.p (.agg [iv v2.2.1.Sym, .sl none 2 (List.map row_Tree v2.2.1.Kids)]), .p (.agg [iv v3.2.1.Sym, .sl none 2 (List.map row_Tree v3.2.1.Kids)])] [] = some (.ret (.p (bv v4)), []) := spec12 n v2.2.1 v3.2.1 v4 e_v4
        by_cases c4 : v4 = true
        · have h := iteT h c4
          obtain ⟨v5, e_v5, h⟩ := ob h
          have e_v5c : call Try.prog T H (.fn 9) [] [] = some (.ret (.p (bv v5)), []) := spec9 n v5 e_v5
          simp only [go_sem, e_v1c, c1, e_v2c, e_v3c, c2b, c3b, e_v4c, c4, e_v5c]
          injection h with h; subst h
          exact Sat.ok hQ
        · have h := iteF h c4
          have c4 := eq_false_of_ne_true c4
          simp only [go_sem, e_v1c, c1, e_v2c, e_v3c, c2b, c3b, e_v4c, c4]
          injection h with h; subst h
          exact Sat.ok hQ
      · have h := iteF h c3
        have c3b : (v2.2.2 == v3.2.2) = false := beqF c3
        simp only [go_sem, e_v1c, c1, e_v2c, e_v3c, c2b, c3b]
        injection h with h; subst h
        exact Sat.ok hQ
    · have h := iteF h c2
      have c2b : (v2.1 == v3.1) = false := beqF c2
      simp only [go_sem, e_v1c, c1, e_v2c, e_v3c, c2b]
      injection h with h; subst h
      exact Sat.ok hQ
  · have h := iteF h c1
    have c1 := eq_false_of_ne_true c1
    obtain ⟨v6, e_v6, h⟩ := ob h
    have e_v6c : call Try.prog T H (.fn 9) [] [] = some (.ret (.p (bv v6)), []) := spec9 n v6 e_v6
    simp only [go_sem, e_v1c, c1, e_v6c]
    injection h with h; subst h
    exact Sat.ok hQ

def law22_RepairHoles (n : Nat) (a0 : Alphabet) (a1 : Automaton) (a2 : Tree) : Option Bool :=
  (law22_few n a0 a1 [a2]).bind fun v1 =>
  if v1 = true then
    (repair_Holes n a0 a1 a2).bind fun v2 =>
    (ref22_Holes n a0 a1 a2).bind fun v3 =>
    if v2.2 = v3.2 then
      (ref01_SameLists v2.1 v3.1).bind fun v4 =>
      if v4 = true then
        (law22_awake n).bind fun v5 =>
        some v5
      else
        some false
    else
      some false
  else
    (law22_awake n).bind fun v6 =>
    some v6
theorem spec4 (n : Nat) (a0 : Alphabet) (a1 : Automaton) (a2 : Tree) (r : Bool) (h : law22_RepairHoles n a0 a1 a2 = some r) :
    call Try.prog T H (.fn 4) [.p (.agg [.sl none 1 (List.map rowI a0.Ranks)]), .p (.agg [iv a1.States, .sl none 1 (List.map rowI a1.Final), .sl none 3 (List.map row_Rule a1.Rules)]), .p (.agg [iv a2.Sym, .sl none 2 (List.map row_Tree a2.Kids)])] [] = some (.ret (.p (bv r)), []) := by
  refine Sat.fn fun Q hQ => ?_
  unfold law22_RepairHoles at h
  rw [call4]
  conv => arg 1; arg 7; unfold S22.c4 Try.f4; simp only [Option.getD_some]
  obtain ⟨v1, e_v1, h⟩ := ob h
  have e_v1c : call Try.prog T H (.fn 8) [.p (.agg [.sl none 1 (List.map rowI a0.Ranks)]), .p (.agg [iv a1.States, .sl none 1 (List.map rowI a1.Final), .sl none 3 (List.map row_Rule a1.Rules)]), .p (.sl none 2 [[iv a2.Sym, .sl none 2 (List.map row_Tree a2.Kids)]])] [] = some (.ret (.p (bv v1)), []) := by have q := spec8 n a0 a1 [a2] v1 e_v1; simp only [List.map_cons, List.map_nil, row_Tree_eq] at q ⊢; exact q
  by_cases c1 : v1 = true
  · have h := iteT h c1
    obtain ⟨v2, e_v2, h⟩ := ob h
    have e_v2c : call Try.prog T H (.fn 13) [.p (.agg [.sl none 1 (List.map rowI a0.Ranks)]), .p (.agg [iv a1.States, .sl none 1 (List.map rowI a1.Final), .sl none 3 (List.map row_Rule a1.Rules)]), .p (.agg [iv a2.Sym, .sl none 2 (List.map row_Tree a2.Kids)])] [] = some (.ret (.p (.tup [.sl none 1 (List.map (rowL 1 rowI) v2.1), iv v2.2])), []) := spec13 n a0 a1 a2 v2 e_v2
    obtain ⟨v3, e_v3, h⟩ := ob h
    have e_v3c : call Try.prog T H (.fn 14) [.p (.agg [.sl none 1 (List.map rowI a0.Ranks)]), .p (.agg [iv a1.States, .sl none 1 (List.map rowI a1.Final), .sl none 3 (List.map row_Rule a1.Rules)]), .p (.agg [iv a2.Sym, .sl none 2 (List.map row_Tree a2.Kids)])] [] = some (.ret (.p (.tup [.sl none 1 (List.map (rowL 1 rowI) v3.1), iv v3.2])), []) := spec14 n a0 a1 a2 v3 e_v3
    by_cases c2 : v2.2 = v3.2
    · have h := iteT h c2
      have c2b : (v2.2 == v3.2) = true := beqT c2
      obtain ⟨v4, e_v4, h⟩ := ob h
      have e_v4c : call Try.prog T H (.fn 15) [.p (.sl none 1 (List.map (rowL 1 rowI) v2.1)), .p (.sl none 1 (List.map (rowL 1 rowI) v3.1))] [] = some (.ret (.p (bv v4)), []) := spec15 v2.1 v3.1 v4 e_v4
      by_cases c3 : v4 = true
      · have h := iteT h c3
        obtain ⟨v5, e_v5, h⟩ := ob h
        have e_v5c : call Try.prog T H (.fn 9) [] [] = some (.ret (.p (bv v5)), []) := spec9 n v5 e_v5
        simp only [go_sem, e_v1c, c1, e_v2c, e_v3c, c2b, e_v4c, c3, e_v5c]
        injection h with h; subst h
        exact Sat.ok hQ
      · have h := iteF h c3
        have c3 := eq_false_of_ne_true c3
        simp only [go_sem, e_v1c, c1, e_v2c, e_v3c, c2b, e_v4c, c3]
        injection h with h; subst h
        exact Sat.ok hQ
    · have h := iteF h c2
      have c2b : (v2.2 == v3.2) = false := beqF c2
      simp only [go_sem, e_v1c, c1, e_v2c, e_v3c, c2b]
      injection h with h; subst h
      exact Sat.ok hQ
  · have h := iteF h c1
    have c1 := eq_false_of_ne_true c1
    obtain ⟨v6, e_v6, h⟩ := ob h
    have e_v6c : call Try.prog T H (.fn 9) [] [] = some (.ret (.p (bv v6)), []) := spec9 n v6 e_v6
    simp only [go_sem, e_v1c, c1, e_v6c]
    injection h with h; subst h
    exact Sat.ok hQ

end Go.AM.S22

namespace Go.AM.S22
open Go Go.Proofs Go.AM
set_option linter.unusedVariables false
set_option maxRecDepth 100000
def stepF (row : List ref22_cut) (d : ref22_cut) (x : Int) : ref22_cut :=
  if ((row[x.toNat]?).getD zh).some = true then (if cutB ((row[x.toNat]?).getD zh) d = true then (row[x.toNat]?).getD zh else d) else d
theorem stepF_HC {m : Nat} {t : Tree} {row : List ref22_cut} (h : HR m t row) {d : ref22_cut} (hd : HC t d) (x : Int) : HC t (stepF row d x) := by
  unfold stepF
  split
  · split
    · exact h.get _
    · exact hd
  · exact hd
theorem cut_eta {c : ref22_cut} (h : c.some = true) : (⟨true, c.nodes, c.l⟩ : ref22_cut) = c := by
  obtain ⟨s, n, l⟩ := c
  simp only at h
  rw [h]
theorem fbest_ref {m : Nat} {t : Tree} {row : List ref22_cut} (h : HR m t row) (hs : tsT t ≤ 80) {R : Type} : ∀ (l : List Int) (i : Nat) (d : ref22_cut) (k : Bool × Int × List (List Int) → Option R), (∀ x ∈ l, 0 ≤ x ∧ x < (m : Int)) →
    rangeC (fun i1 x1 (s1 : Bool × Int × (List (List Int))) n1 =>
      (idx row x1).bind fun v4 =>
      if v4.some = true then
        (ref22_cut_less (ref22_cut.mk true v4.nodes v4.l) (ref22_cut.mk s1.1 s1.2.1 s1.2.2)).bind fun v5 =>
        if v5 = true then
          n1 (true, v4.nodes, v4.l)
        else
          n1 (s1.1, s1.2.1, s1.2.2)
      else
        n1 (s1.1, s1.2.1, s1.2.2)) l i (d.some, d.nodes, d.l) k = k ((l.foldl (stepF row) d).some, (l.foldl (stepF row) d).nodes, (l.foldl (stepF row) d).l)
  | [], i, d, k, _ => by rw [rangeC]; rfl
  | x :: l, i, d, k, hx => by
    have hxx := hx x (by simp)
    have hc := h.get x.toNat
    have ih := fbest_ref h hs l (i + 1) (stepF row d x) k (fun y hy => hx y (List.mem_cons_of_mem _ hy))
    rw [rangeC, idx_get (z := zh) h.1 hxx.1 hxx.2, List.foldl_cons, ← ih]
    simp only [Option.bind_some]
    unfold stepF
    by_cases c1 : ((row[x.toNat]?).getD zh).some = true
    · rw [if_pos c1, if_pos c1]
      have e1 : (⟨true, ((row[x.toNat]?).getD zh).nodes, ((row[x.toNat]?).getD zh).l⟩ : ref22_cut) = (row[x.toNat]?).getD zh := cut_eta c1
      have e2 : (⟨d.some, d.nodes, d.l⟩ : ref22_cut) = d := rfl
      rw [e1, e2, cutless_eq _ _ (sml_of hc hs)]
      simp only [Option.bind_some]
      by_cases c2 : cutB ((row[x.toNat]?).getD zh) d = true
      · rw [if_pos c2, if_pos c2, c1]
      · rw [if_neg c2, if_neg c2]
    · rw [if_neg c1, if_neg c1]
theorem fbest_prog {m : Nat} {t : Tree} {row : List ref22_cut} (h : HR m t row) (hs : tsT t ≤ 80) {W : Option (List repair_holes)} (hW : W = some (row.map (toH t))) {R : Type} : ∀ (l : List Int) (i : Nat) (d : ref22_cut) (k : Bool × Int × List (List Int) → Option R), (∀ x ∈ l, 0 ≤ x ∧ x < (m : Int)) →
    rangeC (fun i1 x1 (s1 : Bool × Int × (List (List Int))) n1 =>
          W.bind fun v4 =>
          (idx v4 x1).bind fun v5 =>
          if v5.ok = true then
            (repair_fewer (repair_holes.mk true v5.gone v5.list) (repair_holes.mk s1.1 s1.2.1 s1.2.2)).bind fun v6 =>
            if v6 = true then
              n1 (true, v5.gone, v5.list)
            else
              n1 (s1.1, s1.2.1, s1.2.2)
          else
            n1 (s1.1, s1.2.1, s1.2.2)) l i (d.some, d.nodes, d.l) k = k ((l.foldl (stepF row) d).some, (l.foldl (stepF row) d).nodes, (l.foldl (stepF row) d).l)
  | [], i, d, k, _ => by rw [rangeC]; rfl
  | x :: l, i, d, k, hx => by
    have hxx := hx x (by simp)
    have hc := h.get x.toNat
    have ih := fbest_prog h hs hW l (i + 1) (stepF row d x) k (fun y hy => hx y (List.mem_cons_of_mem _ hy))
    have hidx : idx (row.map (toH t)) x = some (toH t ((row[x.toNat]?).getD zh)) := by
      unfold idx
      rw [if_pos hxx.1, toH_get _ _ _ (by rw [h.1]; omega)]
    rw [rangeC, hW, List.foldl_cons]
    rw [hW] at ih
    rw [← ih]
    simp only [Option.bind_some]
    rw [hidx]
    simp only [Option.bind_some]
    unfold stepF
    by_cases c1 : ((row[x.toNat]?).getD zh).some = true
    · have e1 : toH t ((row[x.toNat]?).getD zh) = ⟨true, ((row[x.toNat]?).getD zh).nodes, ((row[x.toNat]?).getD zh).l⟩ := if_pos c1
      rw [e1]
      simp only [if_true]
      rw [if_pos c1, fewer_eq _ _ (sml_of hc hs) true]
      simp only [Option.bind_some]
      by_cases c2 : cutB ((row[x.toNat]?).getD zh) d = true
      · rw [if_pos c2, if_pos c2, c1]
      · rw [if_neg c2, if_neg c2]
    · have e1 : toH t ((row[x.toNat]?).getD zh) = ⟨false, tsT t, [[]]⟩ := if_neg c1
      rw [e1, if_neg c1]
      simp only [Bool.false_eq_true, if_false]
def bestH (a : Automaton) (zs : List Bool) (t : Tree) : ref22_cut := a.Final.foldl (stepF (cuT a zs t)) zh
theorem bestH_HC (a : Automaton) {zs : List Bool} {m : Nat} (hz : zs.length = m) (t : Tree) : HC t (bestH a zs t) := by
  unfold bestH
  have : ∀ (l : List Int) (d : ref22_cut), HC t d → HC t (l.foldl (stepF (cuT a zs t)) d) := by
    intro l
    induction l with
    | nil => intro d h; exact h
    | cons x l ih => intro d h; exact ih _ (stepF_HC (cuT_HR a hz t) h x)
  exact this _ _ (HC.zh t)
def holT (a : Automaton) (zs : List Bool) (t : Tree) : List (List Int) × Int := if (bestH a zs t).some = true then ((bestH a zs t).l, 0) else ([], 5)
theorem fit_of {r : List Int} {a : Automaton} (hv : aV r a = true) : Fit r a := by
  unfold aV at hv
  simp only [Bool.and_eq_true, decide_eq_true_eq, List.all_eq_true] at hv
  obtain ⟨v1, v2, v5, v6⟩ := hv
  intro x hx
  have := v6 x hx
  unfold rOk at this
  rw [Bool.and_eq_true, decide_eq_true_eq] at this
  exact this.1.2.2
theorem sh_of {r : List Int} {t : Tree} (h : tvld r t = true) : shT r t = true := by
  unfold tvld at h
  simp only [Bool.and_eq_true] at h
  exact h.2.2
theorem href_top {n : Nat} {r : List Int} {a : Automaton} {t : Tree} (w : AW a) (hd : tdT t + 2 < n) (hw : twT t = true) (hf : fewB r a t = true) (hv : aV r a = true) (ht : tvld r t = true) {S : List Int} (hS : ref06_Smallest n a = some S) (hSl : S.length = a.States.toNat) : ref22_Holes n ⟨r⟩ a t = some (holT a (posV S) t) := by
  have ha := ok_of hv hf
  have hs : tsT t ≤ 80 := by
    unfold fewB at hf
    simp only [Bool.and_eq_true, decide_eq_true_eq] at hf
    omega
  have hfl := ha.fin
  have hzp : (posV S).length = a.States.toNat := by unfold posV; rw [List.length_map, hSl]
  unfold ref22_Holes ref22_Asked holT
  rw [rauto_eq r a w, hv, Option.bind_some, if_pos rfl, rtvalid_eq r (by omega) hw, ht, Option.bind_some, if_pos rfl, Option.bind_some, if_pos rfl]
  rw [hS, Option.bind_some, href_eq ha (fit_of hv) hSl n t (by omega) hs (sh_of ht), Option.bind_some, rangeL, if_pos (by omega)]
  have hb := fbest_ref (cuT_HR a hzp t) hs a.Final 0 zh (fun s1 => if s1.1 = true then some (s1.2.2, (0 : Int)) else some (([] : List (List Int)), 5)) (fun x hx => by have := ha.fins x hx; omega)
  refine hb.trans ?_
  show (if (bestH a (posV S) t).some = true then some ((bestH a (posV S) t).l, (0 : Int)) else some (([] : List (List Int)), 5)) = _
  split <;> rfl
theorem hprog_top {n : Nat} {r : List Int} {a : Automaton} {t : Tree} (w : AW a) (hd : tdT t + 2 < n) (hw : twT t = true) (hf : fewB r a t = true) (hv : aV r a = true) (ht : tvld r t = true) {E : List Int} (hE : empty_sizes a = some E) (hEl : E.length = a.States.toNat) : repair_Holes n ⟨r⟩ a t = some (holT a (posV E) t) := by
  have ha := ok_of hv hf
  have hs : tsT t ≤ 80 := by
    unfold fewB at hf
    simp only [Bool.and_eq_true, decide_eq_true_eq] at hf
    omega
  have hfl := ha.fin
  have hzp : (posV E).length = a.States.toNat := by unfold posV; rw [List.length_map, hEl]
  unfold repair_Holes empty_Sizes holT
  rw [auto_eq r a w, hv, Option.bind_some, if_pos rfl, tvalid_eq r (by omega) hw, ht, Option.bind_some, if_pos rfl, Option.bind_some, if_pos rfl, hE, Option.bind_some, Option.bind_some]
  obtain ⟨q, m', e1, e2, e3⟩ := Hol.walk_eq ha (fit_of hv) hEl (n := n) n t none 0 (by omega) (by omega) hs (sh_of ht) trivial (by simp [Hol.pl]; omega)
  rcases q with _ | ⟨g, o, l⟩
  · simp [Hol.pl] at e3
  simp only [Hol.pl, List.nil_append] at e3
  simp only [Hol.pk] at e2
  have hlen := congrArg List.length e3
  simp only [List.length_take, List.length_cons, List.length_nil] at hlen
  have h0 : idxM l o 0 = some ((cuT a (posV E) t).map (toH t)) := by
    unfold idxM
    rw [if_pos (by omega)]
    have : (o.take l)[0]? = some (pT a (posV E) t) := by rw [e3]; rfl
    rw [List.getElem?_take, if_pos (by omega)] at this
    exact this
  rw [if_pos rfl, e1, Option.bind_some, Option.bind_some]
  rw [rangeL, if_pos (by omega)]
  have hb := fbest_prog (cuT_HR a hzp t) hs (W := idxM l o 0) h0 a.Final 0 zh (fun s1 => if s1.1 = true then some (s1.2.2, (0 : Int)) else some (([] : List (List Int)), 5)) (fun x hx => by have := ha.fins x hx; omega)
  refine hb.trans ?_
  show (if (bestH a (posV E) t).some = true then some ((bestH a (posV E) t).l, (0 : Int)) else some (([] : List (List Int)), 5)) = _
  split <;> rfl
theorem list_refl (l : List Int) (h : l.length < 9223372036854775808) : ref01_List l l = some true := by
  unfold ref01_List
  rw [if_pos rfl, rangeL, if_pos h]
  suffices H : ∀ (us p : List Int), l = p ++ us → rangeC (fun i1 (x1 : Int) (s1 : Unit) n1 => (l[i1]?).bind fun v1 => if x1 = v1 then n1 () else some false) us p.length () (fun _ => some true) = some true from H l [] rfl
  intro us
  induction us with
  | nil => intro p _; rw [rangeC]
  | cons x us ih =>
    intro p e
    rw [rangeC, show l[p.length]? = some x by rw [e, List.getElem?_append_right (Nat.le_refl _), Nat.sub_self]; rfl]
    simp only [Option.bind_some, if_true]
    have := ih (p ++ [x]) (by rw [e]; simp)
    rw [List.length_append] at this
    exact this
theorem lists_refl (l : List (List Int)) (h : SmL l) : ref01_SameLists l l = some true := by
  have hn := h.n
  unfold ref01_SameLists
  rw [if_pos rfl, rangeL, if_pos (by omega)]
  suffices H : ∀ (us p : List (List Int)), l = p ++ us → rangeC (fun i1 (x1 : List Int) (s1 : Unit) n1 => (l[i1]?).bind fun v1 => (ref01_List x1 v1).bind fun v2 => if v2 = true then n1 () else some false) us p.length () (fun _ => some true) = some true from H l [] rfl
  intro us
  induction us with
  | nil => intro p _; rw [rangeC]
  | cons x us ih =>
    intro p e
    have hx := h.e x (by rw [e]; simp)
    rw [rangeC, show l[p.length]? = some x by rw [e, List.getElem?_append_right (Nat.le_refl _), Nat.sub_self]; rfl]
    simp only [Option.bind_some]
    rw [list_refl x (by omega)]
    simp only [Option.bind_some, if_true]
    have := ih (p ++ [x]) (by rw [e]; simp)
    rw [List.length_append] at this
    exact this
theorem awake_eq (m : Nat) : law22_awake (m + 20) = some true := by rfl
theorem holes_law (r : List Int) (a : Automaton) (t : Tree) (w : AW a) (hw : twT t = true) : ∃ n, law22_RepairHoles n ⟨r⟩ a t = some true := by
  by_cases c : fewB r a t = true
  · by_cases c1 : aV r a = true
    · by_cases c2 : tvld r t = true
      · have ha := ok_of c1 c
        obtain ⟨n0, E, S, h1, h2, h3, h4, h5⟩ := sizes_same ha
        refine ⟨(n0 + tdT t) + 20, ?_⟩
        have hs : tsT t ≤ 80 := by
          unfold fewB at c
          simp only [Bool.and_eq_true, decide_eq_true_eq] at c
          omega
        have hzp : (posV S).length = a.States.toNat := by unfold posV; rw [List.length_map, h4]
        unfold law22_RepairHoles
        rw [few_eq r a t w (by omega) hw, c, Option.bind_some, if_pos rfl, hprog_top w (by omega) hw c c1 c2 h1 h3, href_top w (by omega) hw c c1 c2 (h2 _ (by omega)) h4, h5, Option.bind_some, Option.bind_some, if_pos rfl, lists_refl, Option.bind_some, if_pos rfl, awake_eq]
        rfl
        unfold holT
        split
        · exact sml_of (bestH_HC a hzp t) hs
        · exact ⟨Nat.zero_le _, fun p h => by cases h⟩
      · refine ⟨tdT t + 20, ?_⟩
        unfold law22_RepairHoles repair_Holes ref22_Holes ref22_Asked
        rw [few_eq r a t w (by omega) hw, c, Option.bind_some, if_pos rfl, auto_eq r a w, rauto_eq r a w, c1, Option.bind_some, if_pos rfl, tvalid_eq r (by omega) hw, Option.bind_some, if_neg c2, Option.bind_some, Option.bind_some, if_pos rfl, rtvalid_eq r (by omega) hw, Option.bind_some, if_neg c2, Option.bind_some, if_neg (by decide), Option.bind_some, if_pos rfl, lists_refl _ ⟨Nat.zero_le _, fun p h => by cases h⟩, Option.bind_some, if_pos rfl, awake_eq]
        rfl
    · refine ⟨tdT t + 20, ?_⟩
      unfold law22_RepairHoles repair_Holes ref22_Holes ref22_Asked
      rw [few_eq r a t w (by omega) hw, c, Option.bind_some, if_pos rfl, auto_eq r a w, rauto_eq r a w, Option.bind_some, if_neg c1, Option.bind_some, Option.bind_some, if_neg c1, Option.bind_some, if_neg (by decide), Option.bind_some, if_pos rfl, lists_refl _ ⟨Nat.zero_le _, fun p h => by cases h⟩, Option.bind_some, if_pos rfl, awake_eq]
      rfl
  · refine ⟨tdT t + 20, ?_⟩
    unfold law22_RepairHoles
    rw [few_eq r a t w (by omega) hw, Option.bind_some, if_neg c, awake_eq]
    rfl
theorem law4 (pss : List (List PV)) (h : wtAll T [24, 27, 30] pss) : ∃ σ', call Try.prog T H (.fn 4) (argsOf T [24, 27, 30] pss) [] = some (.ret (.p (.lit (.bool true))), σ') := by
  obtain ⟨p1, r1, rfl, ⟨n1, w1⟩, p2, r2, rfl, ⟨n2, w2⟩, p3, r3, rfl, ⟨n3, w3⟩, rfl⟩ := h
  obtain ⟨r, rfl⟩ := wt24 w1
  obtain ⟨a, rfl, ha⟩ := wt27 w2
  obtain ⟨x, rfl, hx⟩ := wt30 n3 p3 w3
  obtain ⟨n, hn⟩ := holes_law r a x ha hx
  have := spec4 n ⟨r⟩ a x true hn
  rw [row_Tree_eq]
  exact ⟨[], this⟩
end Go.AM.S22

