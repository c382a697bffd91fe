/- What the functions of this seat compute on the abstract machine, function by function, and the plain laws. -/
import Derived.Test.YtnfggookadgjiaaLaws
import Derived.KernelRfl
import Derived.Test.YtnfggookadgjiaaAmWt
set_option linter.unusedVariables false
set_option linter.unusedSimpArgs false
namespace Go.AM.S22
namespace Rel
open Go Go.Proofs Go.AM
set_option maxRecDepth 100000
set_option linter.unusedVariables false
set_option maxHeartbeats 4000000
abbrev PS := Option (Nat × List (List repair_labeled) × Nat)
def pv : PS → AV
  | none => .nms 4 1
  | some (g, _, n) => .ms 4 g 1 0 n
def po : PS → AObj
  | none => .dead
  | some (g, l, _) => .arr g 1 (List.map (rowA (rowL 3 row_repair_labeled)) l)
def yS (σ : List AObj) (s : PS) : List AObj := (σ.set 4 (po s)).set 5 (.cells [pv s])
theorem yS_len (σ : List AObj) (s : PS) : (yS σ s).length = σ.length := by simp [yS]
theorem yS_get (σ : List AObj) (s : PS) {i : Nat} (h : i ≠ 4 ∧ i ≠ 5) : (yS σ s)[i]? = σ[i]? := by
  unfold yS; rw [List.getElem?_set_ne (by omega), List.getElem?_set_ne (by omega)]
theorem yS_4 {σ : List AObj} (s : PS) (h : 8 ≤ σ.length) : (yS σ s)[4]? = some (po s) := by
  unfold yS; rw [List.getElem?_set_ne (by decide), List.getElem?_set_self (by omega)]
theorem yS_5 {σ : List AObj} (s : PS) (h : 8 ≤ σ.length) : (yS σ s)[5]? = some (.cells [pv s]) := by
  unfold yS; rw [List.getElem?_set_self (by simp; omega)]
theorem yS_set (σ : List AObj) (s p : PS) : ((yS σ s).set 4 (po p)).set 5 (.cells [pv p]) = yS σ p := by
  unfold yS
  rw [List.set_comm _ _ (by decide : 5 ≠ 4), List.set_set, List.set_set]
theorem yS_app {σ : List AObj} (s : PS) (h : 8 ≤ σ.length) (l : List AObj) : yS σ s ++ l = yS (σ ++ l) s := by
  unfold yS
  rw [List.set_append_left _ _ (by omega), List.set_append_left _ _ (by simp; omega)]
def relRow0 (n : Nat) (a : Automaton) (u : Tree) : Option (List (List repair_labeled) × Nat) :=
  (mkz 40 a.States a.States (repair_labeled.mk 0 (Tree.mk 0 ([] : List Tree)))).bind fun v1 =>
  rangeI ((a.States).toNat : Int) v1 (fun k1 i1 (s1 : (List repair_labeled)) n1 =>
    (idxM ((a.States).toNat) s1 (i1 : Int)).bind fun v9 =>
    n1 (List.set s1 i1 (repair_labeled.mk (-1) v9.tree))) fun s1 =>
  rangeL a.Rules s1 (fun k2 i2 x2 (s2 : (List repair_labeled)) n2 =>
    (cutM 0 (w64 (0 - (u.Kids.length : Int)))).bind fun v5 =>
    (repair_relabeled x2 u ([] : List (List repair_labeled))).bind fun v6 =>
    if v6.2 = true then
      (idxM ((a.States).toNat) s2 x2.To).bind fun v7 =>
      (repair_before n v6.1 v7).bind fun v8 =>
      if v8 = true then
        n2 (List.set s2 ((x2.To).toNat) v6.1)
      else
        n2 s2
    else
      n2 s2) fun s2 =>
  (cutM 0 (w64 (0 - (u.Kids.length : Int)))).bind fun v2 =>
  (allM 0 ((a.States).toNat) s2).bind fun v3 =>
  (appM 24 0 ([] : List (List repair_labeled)) [v3]).bind fun v4 =>
  some (v4, 1)
theorem relRow0_spec {E : Env} (hE4 : get E 4 = .ptr 1 0) (hE9 : get E 9 = .ptr 5 0) (hEl : ∀ t, ltV 7 (get E t) = true) {σ : List AObj} (hl : 8 ≤ σ.length) (n : Nat) (a : Automaton) (u : Tree) (o1 : σ[1]? = some (.cells [.p (iv a.States), .p (.sl none 1 (List.map rowI a.Final)), .p (.sl none 3 (List.map row_Rule a.Rules))]))  (r : List (List repair_labeled) × Nat) (h : relRow0 n a u = some r) (i : Int) (K : Ex × S → Option (Out × List AObj)) (Q : Out × List AObj → Prop)
    (hK : ∀ env loc, Sat (K (.normal, ⟨env, yS σ (some (1, r.1, r.2)) ++ loc, [], none, false⟩)) Q) :
    Sat (run Try.prog T H 10 σ.length 0 B10_0 ⟨(11, .ptr σ.length 0) :: (36, .p (iv i)) :: (37, .p (.agg [iv u.Sym, .sl none 2 (List.map row_Tree u.Kids)])) :: E, (yS σ none) ++ [.cells [.p (iv u.Sym), .p (.sl none 2 (List.map row_Tree u.Kids))]], [], none, false⟩ K) Q := by
  unfold relRow0 at h
  have yl := fun s => yS_len σ s
  have b1 : ∀ s l, (yS σ s ++ l)[1]? = some (.cells [.p (iv a.States), .p (.sl none 1 (List.map rowI a.Final)), .p (.sl none 3 (List.map row_Rule a.Rules))]) := fun s l => by rw [List.getElem?_append_left (by rw [yS_len]; omega), yS_get _ _ (by decide), o1]
  have f5 : ∀ k, (yS σ none ++ k)[5]? = some (.cells [.nms 4 1]) := fun k => by rw [List.getElem?_append_left (by rw [yS_len]; omega), yS_5 _ (by omega)]; rfl
  have fd : ∀ k, (yS σ none ++ k)[4]? = some .dead := fun k => by rw [List.getElem?_append_left (by rw [yS_len]; omega), yS_4 _ (by omega)]; rfl
  have f45 : ∀ k X, ((yS σ none ++ k).set 4 X)[5]? = some (.cells [.nms 4 1]) := fun k X => by rw [List.getElem?_set_ne (by decide)]; exact f5 k
  have hp : ∀ k v m, ((yS σ none ++ k).set 4 (.arr 1 1 (List.map (rowA (rowL 3 row_repair_labeled)) v))).set 5 (.cells [.ms 4 1 1 0 m]) = yS σ (some (1, v, m)) ++ k := fun k v m => by rw [List.set_append_left _ _ (by rw [yS_len]; omega), List.set_append_left _ _ (by rw [List.length_set, yS_len]; omega)]; exact congrArg (· ++ k) (yS_set σ _ (some (1, v, m)))
  have g0 : ∀ s l, (yS σ s ++ l)[σ.length]? = l[0]? := fun s l => sA0 (yS_len σ s)
  have gk : ∀ s l k, (yS σ s ++ l)[σ.length + k]? = l[k]? := fun s l k => sAK (yS_len σ s)
  have s0 : ∀ s l y, (yS σ s ++ l).set σ.length y = yS σ s ++ l.set 0 y := fun s l y => sS0 (yS_len σ s)
  have sk : ∀ s l y k, (yS σ s ++ l).set (σ.length + k) y = yS σ s ++ l.set k y := fun s l y k => sSK (yS_len σ s)
  have t0 : ∀ s l, (yS σ s ++ l).take σ.length = yS σ s := fun s l => sT0 (yS_len σ s)
  have tk : ∀ s l k, (yS σ s ++ l).take (σ.length + k) = yS σ s ++ l.take k := fun s l k => sTK (yS_len σ s)
  have tx : ∀ s, (yS σ s).take σ.length = yS σ s := fun s => sTX (yS_len σ s)
  have lt : ∀ k, 1 < σ.length + k ∧ 3 < σ.length + k ∧ 4 < σ.length + k ∧ 5 < σ.length + k := fun k => by omega
  have lE : ∀ t k, ltV (σ.length + k) (get E t) = true := fun t k => ltV_mono (by omega) _ (hEl t)
  have lE0 : ∀ t, ltV σ.length (get E t) = true := fun t => ltV_mono (by omega) _ (hEl t)
  conv => arg 1; arg 7; unfold B10_0 rangeB S22.c10 Try.f10; simp only [rangeIn, Option.getD_some, if_true]
  obtain ⟨v1, e_v1, h⟩ := ob h
  obtain ⟨e_v11, e_v12, e_v13, e_v14⟩ := mkz_some e_v1
  have e_v1b : boundOk (a.States).toNat 40 = true := bnd_of e_v13 (by decide)
  have e_v1r : List.replicate (a.States).toNat [AV.p (iv 0), AV.p (iv 0), AV.p (.sl none 2 [])] = List.map (rowA row_repair_labeled) v1 := by rw [e_v14]; exact rep_map (by first | rfl | simp only [go_sem, List.map_nil])
  simp only [go_sem, e_v11, e_v12, e_v1b, e_v1r, hE4, hE9, yl, b1, f5, fd, f45, hp, g0, gk, s0, sk, t0, tk, tx, lt, lE, lE0]
  refine run_rangeI (c := L10_2) (live := [4, 7, 9, 11, 12, 13, 48, 49]) (by simp only [go_sem]) (M := fun i1 (s1 : (List repair_labeled)) => [(4, .ptr 1 0), (7, (get E 7)), (9, .ptr 5 0), (11, .ptr σ.length 0), (12, .p (iv (w64 (0 - (u.Kids.length : Int))))), (13, .ms (σ.length + 1) 0 3 0 ((a.States).toNat)), (48, .p (iv ((a.States).toNat : Int))), (49, .p (iv (i1 : Int)))]) (Z := fun i1 (s1 : (List repair_labeled)) => ((yS σ none) ++ [.cells [.p (iv u.Sym), .p (.sl none 2 (List.map row_Tree u.Kids))], .arr 0 3 (List.map (rowA row_repair_labeled) s1)])) (N := fun (s1 : (List repair_labeled)) => ⟨[(4, .ptr 1 0), (7, (get E 7)), (9, .ptr 5 0), (11, .ptr σ.length 0), (12, .p (iv (w64 (0 - (u.Kids.length : Int))))), (13, .ms (σ.length + 1) 0 3 0 ((a.States).toNat))], ((yS σ none) ++ [.cells [.p (iv u.Sym), .p (.sl none 2 (List.map row_Tree u.Kids))], .arr 0 3 (List.map (rowA row_repair_labeled) s1)]), [], none, false⟩) h (by first | rfl | (simp only [go_sem, hE4, hE9, yl, b1, f5, fd, f45, hp, g0, gk, s0, sk, t0, tk, tx, lt, lE, lE0]; done) | (simp only [go_sem, hE4, hE9, yl, b1, f5, fd, f45, hp, g0, gk, s0, sk, t0, tk, tx, lt, lE, lE0]; rfl)) (by first | rfl | (simp only [go_sem, hE4, hE9, yl, b1, f5, fd, f45, hp, g0, gk, s0, sk, t0, tk, tx, lt, lE, lE0]; done) | (simp only [go_sem, hE4, hE9, yl, b1, f5, fd, f45, hp, g0, gk, s0, sk, t0, tk, tx, lt, lE, lE0]; rfl)) (fun _ _ => rfl) ?_ ?_ ?_
  · intro s1 h
    try dsimp only at h ⊢
    simp only [go_sem, hE4, hE9, yl, b1, f5, fd, f45, hp, g0, gk, s0, sk, t0, tk, tx, lt, lE, lE0]
    refine run_rangeL (c := L10_4) (live := [4, 7, 9, 11, 12, 13, 58, 59, 60]) (by simp only [go_sem]) (M := fun i2 (s2 : (List repair_labeled)) => [(4, .ptr 1 0), (7, (get E 7)), (9, .ptr 5 0), (11, .ptr σ.length 0), (12, .p (iv (w64 (0 - (u.Kids.length : Int))))), (13, .ms (σ.length + 1) 0 3 0 ((a.States).toNat)), (58, .p (.sl none 3 (List.map row_Rule a.Rules))), (59, .p (iv (a.Rules.length : Int))), (60, .p (iv (i2 : Int)))]) (Z := fun i2 (s2 : (List repair_labeled)) => ((yS σ none) ++ [.cells [.p (iv u.Sym), .p (.sl none 2 (List.map row_Tree u.Kids))], .arr 0 3 (List.map (rowA row_repair_labeled) s2)])) (N := fun (s2 : (List repair_labeled)) => ⟨[(4, .ptr 1 0), (7, (get E 7)), (9, .ptr 5 0), (12, .p (iv (w64 (0 - (u.Kids.length : Int))))), (13, .ms (σ.length + 1) 0 3 0 ((a.States).toNat))], ((yS σ none) ++ [.cells [.p (iv u.Sym), .p (.sl none 2 (List.map row_Tree u.Kids))], .arr 0 3 (List.map (rowA row_repair_labeled) s2)]), [], none, false⟩) h (by first | rfl | (simp only [go_sem, hE4, hE9, yl, b1, f5, fd, f45, hp, g0, gk, s0, sk, t0, tk, tx, lt, lE, lE0]; done) | (simp only [go_sem, hE4, hE9, yl, b1, f5, fd, f45, hp, g0, gk, s0, sk, t0, tk, tx, lt, lE, lE0]; rfl)) (by first | rfl | (simp only [go_sem, hE4, hE9, yl, b1, f5, fd, f45, hp, g0, gk, s0, sk, t0, tk, tx, lt, lE, lE0]; done) | (simp only [go_sem, hE4, hE9, yl, b1, f5, fd, f45, hp, g0, gk, s0, sk, t0, tk, tx, lt, lE, lE0]; rfl)) (fun _ _ => rfl) ?_ ?_ ?_
    · intro s2 h
      try dsimp only at h ⊢
      obtain ⟨v2, e_v2, h⟩ := ob h
      obtain ⟨e_v2a, e_v2b, e_v2d⟩ := cutM_some e_v2
      have e_v2z : v2 = 0 := Nat.le_zero.1 e_v2b
      obtain ⟨v3, e_v3, h⟩ := ob h
      have e_v3a := (allM_some e_v3).1
      have e_v3b := (allM_some e_v3).2
      try simp only [Nat.zero_add] at e_v3a
      try simp only [List.drop_zero] at e_v3b
      obtain ⟨v4, e_v4, h⟩ := ob h
      have e_v4a := (appM_some e_v4).1
      have e_v4b : boundOk (1) 24 = true := by decide
      have e_v4l : v4.length = 1 := by rw [← (appM_some e_v4).2.2]; rfl
      have e_v4e : (List.map (rowA (rowL 3 row_repair_labeled)) v4).isEmpty = false := by rw [← (appM_some e_v4).2.2]; rfl
      have e_v4c : [[AV.p (.sl none 3 (List.map row_repair_labeled v3))]] = List.map (rowA (rowL 3 row_repair_labeled)) v4 := by rw [← (appM_some e_v4).2.2]; simp [rowA, rowL, row_repair_labeled_eq]
      simp only [go_sem, e_v2a, e_v2d, e_v2z, e_v3a, e_v3b, e_v4b, e_v4l, e_v4e, e_v4c, hE4, hE9, yl, b1, f5, fd, f45, hp, g0, gk, s0, sk, t0, tk, tx, lt, lE, lE0]
      injection h with h; subst h
      exact hK _ _
    · intro K2 s2 hb2 he2
      try dsimp only
      conv => arg 1; arg 7; unfold L10_4 loopAt S22.c10 Try.f10; simp only [loopIn, Option.getD_some, if_true]
      simp only [go_sem, he2, hE4, hE9, yl, b1, f5, fd, f45, hp, g0, gk, s0, sk, t0, tk, tx, lt, lE, lE0]
      exact hb2
    · intro K2 k2 i2 x2 s2 n2 hR2 hE2 hb2 hx2 hi2 hw2 ih2 h
      try dsimp only at h ⊢
      conv => arg 1; arg 7; unfold L10_4 loopAt S22.c10 Try.f10; simp only [loopIn, Option.getD_some, if_true]
      obtain ⟨v5, e_v5, h⟩ := ob h
      obtain ⟨e_v5a, e_v5b, e_v5d⟩ := cutM_some e_v5
      have e_v5z : v5 = 0 := Nat.le_zero.1 e_v5b
      obtain ⟨v6, e_v6, h⟩ := ob h
      have e_v6c : call Try.prog T H (.fn 31) [.p (.agg [iv x2.Sym, .sl none 1 (List.map rowI x2.From), iv x2.To]), .p (.agg [iv u.Sym, .sl none 2 (List.map row_Tree u.Kids)]), .p (.sl none 1 [])] [] = some (.ret (.p (.tup [.agg [iv v6.1.many, iv v6.1.tree.Sym, .sl none 2 (List.map row_Tree v6.1.tree.Kids)], bv v6.2])), []) := spec31 x2 u ([] : List (List repair_labeled)) v6 e_v6
      by_cases c1 : v6.2 = true
      · have h := iteT h c1
        obtain ⟨v7, e_v7, h⟩ := ob h
        obtain ⟨e_v7a, e_v7b, e_v7d⟩ := idxM_some e_v7
        obtain ⟨v8, e_v8, h⟩ := ob h
        have e_v8c : call Try.prog T H (.fn 32) [.p (.agg [iv v6.1.many, iv v6.1.tree.Sym, .sl none 2 (List.map row_Tree v6.1.tree.Kids)]), .p (.agg [iv v7.many, iv v7.tree.Sym, .sl none 2 (List.map row_Tree v7.tree.Kids)])] [] = some (.ret (.p (bv v8)), []) := spec32 n v6.1 v7 v8 e_v8
        by_cases c2 : v8 = true
        · have h := iteT h c2
          have e_y1 : List.set (List.map (rowA row_repair_labeled) s2) ((x2.To).toNat) [.p (iv v6.1.many), .p (iv v6.1.tree.Sym), .p (.sl none 2 (List.map row_Tree v6.1.tree.Kids))] = List.map (rowA row_repair_labeled) (List.set s2 ((x2.To).toNat) v6.1) := map_set' (by first | rfl | simp only [go_sem, List.map_cons, List.map_nil])
          simp only [go_sem, hx2, hi2, hw2, e_v5a, e_v5d, e_v5z, e_v6c, c1, e_v7a, e_v7b, e_v7d, e_v8c, c2, e_y1, hR2, hE2, hE4, hE9, yl, b1, f5, fd, f45, hp, g0, gk, s0, sk, t0, tk, tx, lt, lE, lE0]
          exact ih2 (List.set s2 ((x2.To).toNat) v6.1) h
        · have h := iteF h c2
          have c2 := eq_false_of_ne_true c2
          simp only [go_sem, hx2, hi2, hw2, e_v5a, e_v5d, e_v5z, e_v6c, c1, e_v7a, e_v7b, e_v7d, e_v8c, c2, hR2, hE2, hE4, hE9, yl, b1, f5, fd, f45, hp, g0, gk, s0, sk, t0, tk, tx, lt, lE, lE0]
          exact ih2 s2 h
      · have h := iteF h c1
        have c1 := eq_false_of_ne_true c1
        simp only [go_sem, hx2, hi2, hw2, e_v5a, e_v5d, e_v5z, e_v6c, c1, hR2, hE2, hE4, hE9, yl, b1, f5, fd, f45, hp, g0, gk, s0, sk, t0, tk, tx, lt, lE, lE0]
        exact ih2 s2 h
  · intro K1 i1 s1 hb1 he1
    try dsimp only
    conv => arg 1; arg 7; unfold L10_2 loopAt S22.c10 Try.f10; simp only [loopIn, Option.getD_some, if_true]
    simp only [go_sem, he1, hE4, hE9, yl, b1, f5, fd, f45, hp, g0, gk, s0, sk, t0, tk, tx, lt, lE, lE0]
    exact hb1
  · intro K1 k1 i1 s1 n1 hR1 hE1 hb1 hi1 hw1 ih1 h
    try dsimp only at h ⊢
    conv => arg 1; arg 7; unfold L10_2 loopAt S22.c10 Try.f10; simp only [loopIn, Option.getD_some, if_true]
    obtain ⟨v9, e_v9, h⟩ := ob h
    obtain ⟨e_v9a, e_v9b, e_v9d⟩ := idxM_some e_v9
    simp only [Int.toNat_natCast] at e_v9b
    simp only [Int.toNat_natCast] at e_v9d
    have e_y2 : List.set (List.map (rowA row_repair_labeled) s1) i1 [.p (iv (-1)), .p (iv v9.tree.Sym), .p (.sl none 2 (List.map row_Tree v9.tree.Kids))] = List.map (rowA row_repair_labeled) (List.set s1 i1 (repair_labeled.mk (-1) v9.tree)) := map_set' (by first | rfl | simp only [go_sem, List.map_cons, List.map_nil])
    simp only [go_sem, hi1, hw1, e_v9b, e_v9d, e_y2, hR1, hE1, hE4, hE9, yl, b1, f5, fd, f45, hp, g0, gk, s0, sk, t0, tk, tx, lt, lE, lE0]
    exact ih1 (List.set s1 i1 (repair_labeled.mk (-1) v9.tree)) h
def relRow (n : Nat) (a : Automaton) (u : Tree) (o : List (List repair_labeled)) (l : Nat) : Option (List (List repair_labeled) × Nat) :=
  (mkz 40 a.States a.States (repair_labeled.mk 0 (Tree.mk 0 ([] : List Tree)))).bind fun v1 =>
  rangeI ((a.States).toNat : Int) v1 (fun k1 i1 (s1 : (List repair_labeled)) n1 =>
    (idxM ((a.States).toNat) s1 (i1 : Int)).bind fun v9 =>
    n1 (List.set s1 i1 (repair_labeled.mk (-1) v9.tree))) fun s1 =>
  rangeL a.Rules s1 (fun k2 i2 x2 (s2 : (List repair_labeled)) n2 =>
    (cutM l (w64 ((l : Int) - (u.Kids.length : Int)))).bind fun v5 =>
    (repair_relabeled_xxq x2 u o (l - v5) v5).bind fun v6 =>
    if v6.2 = true then
      (idxM ((a.States).toNat) s2 x2.To).bind fun v7 =>
      (repair_before n v6.1 v7).bind fun v8 =>
      if v8 = true then
        n2 (List.set s2 ((x2.To).toNat) v6.1)
      else
        n2 s2
    else
      n2 s2) fun s2 =>
  (cutM l (w64 ((l : Int) - (u.Kids.length : Int)))).bind fun v2 =>
  (allM 0 ((a.States).toNat) s2).bind fun v3 =>
  (appM 24 v2 o [v3]).bind fun v4 =>
  some (v4, (v2 + 1))
theorem relRow_spec {E : Env} (hE4 : get E 4 = .ptr 1 0) (hE9 : get E 9 = .ptr 5 0) (hEl : ∀ t, ltV 7 (get E t) = true) {σ : List AObj} (hl : 8 ≤ σ.length) (n : Nat) (a : Automaton) (u : Tree) (g : Nat) (o : List (List repair_labeled)) (l : Nat) (o1 : σ[1]? = some (.cells [.p (iv a.States), .p (.sl none 1 (List.map rowI a.Final)), .p (.sl none 3 (List.map row_Rule a.Rules))]))  (r : List (List repair_labeled) × Nat) (h : relRow n a u o l = some r) (i : Int) (K : Ex × S → Option (Out × List AObj)) (Q : Out × List AObj → Prop)
    (hK : ∀ env loc, Sat (K (.normal, ⟨env, yS σ (some ((g + 1), r.1, r.2)) ++ loc, [], none, false⟩)) Q) :
    Sat (run Try.prog T H 10 σ.length 0 B10_0 ⟨(11, .ptr σ.length 0) :: (36, .p (iv i)) :: (37, .p (.agg [iv u.Sym, .sl none 2 (List.map row_Tree u.Kids)])) :: E, (yS σ (some (g, o, l))) ++ [.cells [.p (iv u.Sym), .p (.sl none 2 (List.map row_Tree u.Kids))]], [], none, false⟩ K) Q := by
  unfold relRow at h
  have yl := fun s => yS_len σ s
  have b1 : ∀ s l, (yS σ s ++ l)[1]? = some (.cells [.p (iv a.States), .p (.sl none 1 (List.map rowI a.Final)), .p (.sl none 3 (List.map row_Rule a.Rules))]) := fun s l => by rw [List.getElem?_append_left (by rw [yS_len]; omega), yS_get _ _ (by decide), o1]
  have f5 : ∀ k, (yS σ (some (g, o, l)) ++ k)[5]? = some (.cells [.ms 4 g 1 0 l]) := fun k => by rw [List.getElem?_append_left (by rw [yS_len]; omega), yS_5 _ (by omega)]; rfl
  have f4 : ∀ k, (yS σ (some (g, o, l)) ++ k)[4]? = some (.arr g 1 (List.map (rowA (rowL 3 row_repair_labeled)) o)) := fun k => by rw [List.getElem?_append_left (by rw [yS_len]; omega), yS_4 _ (by omega)]; rfl
  have f45 : ∀ k X, ((yS σ (some (g, o, l)) ++ k).set 4 X)[5]? = some (.cells [.ms 4 g 1 0 l]) := fun k X => by rw [List.getElem?_set_ne (by decide)]; exact f5 k
  have hp : ∀ k v m, ((yS σ (some (g, o, l)) ++ k).set 4 (.arr (g + 1) 1 (List.map (rowA (rowL 3 row_repair_labeled)) v))).set 5 (.cells [.ms 4 (g + 1) 1 0 m]) = yS σ (some ((g + 1), v, m)) ++ k := fun k v m => by rw [List.set_append_left _ _ (by rw [yS_len]; omega), List.set_append_left _ _ (by rw [List.length_set, yS_len]; omega)]; exact congrArg (· ++ k) (yS_set σ _ (some ((g + 1), v, m)))
  have g0 : ∀ s l, (yS σ s ++ l)[σ.length]? = l[0]? := fun s l => sA0 (yS_len σ s)
  have gk : ∀ s l k, (yS σ s ++ l)[σ.length + k]? = l[k]? := fun s l k => sAK (yS_len σ s)
  have s0 : ∀ s l y, (yS σ s ++ l).set σ.length y = yS σ s ++ l.set 0 y := fun s l y => sS0 (yS_len σ s)
  have sk : ∀ s l y k, (yS σ s ++ l).set (σ.length + k) y = yS σ s ++ l.set k y := fun s l y k => sSK (yS_len σ s)
  have t0 : ∀ s l, (yS σ s ++ l).take σ.length = yS σ s := fun s l => sT0 (yS_len σ s)
  have tk : ∀ s l k, (yS σ s ++ l).take (σ.length + k) = yS σ s ++ l.take k := fun s l k => sTK (yS_len σ s)
  have tx : ∀ s, (yS σ s).take σ.length = yS σ s := fun s => sTX (yS_len σ s)
  have lt : ∀ k, 1 < σ.length + k ∧ 3 < σ.length + k ∧ 4 < σ.length + k ∧ 5 < σ.length + k := fun k => by omega
  have lE : ∀ t k, ltV (σ.length + k) (get E t) = true := fun t k => ltV_mono (by omega) _ (hEl t)
  have lE0 : ∀ t, ltV σ.length (get E t) = true := fun t => ltV_mono (by omega) _ (hEl t)
  conv => arg 1; arg 7; unfold B10_0 rangeB S22.c10 Try.f10; simp only [rangeIn, Option.getD_some, if_true]
  obtain ⟨v1, e_v1, h⟩ := ob h
  obtain ⟨e_v11, e_v12, e_v13, e_v14⟩ := mkz_some e_v1
  have e_v1b : boundOk (a.States).toNat 40 = true := bnd_of e_v13 (by decide)
  have e_v1r : List.replicate (a.States).toNat [AV.p (iv 0), AV.p (iv 0), AV.p (.sl none 2 [])] = List.map (rowA row_repair_labeled) v1 := by rw [e_v14]; exact rep_map (by first | rfl | simp only [go_sem, List.map_nil])
  simp only [go_sem, e_v11, e_v12, e_v1b, e_v1r, hE4, hE9, yl, b1, f5, f4, f45, hp, g0, gk, s0, sk, t0, tk, tx, lt, lE, lE0]
  refine run_rangeI (c := L10_2) (live := [4, 7, 9, 11, 12, 13, 48, 49]) (by simp only [go_sem]) (M := fun i1 (s1 : (List repair_labeled)) => [(4, .ptr 1 0), (7, (get E 7)), (9, .ptr 5 0), (11, .ptr σ.length 0), (12, .p (iv (w64 ((l : Int) - (u.Kids.length : Int))))), (13, .ms (σ.length + 1) 0 3 0 ((a.States).toNat)), (48, .p (iv ((a.States).toNat : Int))), (49, .p (iv (i1 : Int)))]) (Z := fun i1 (s1 : (List repair_labeled)) => ((yS σ (some (g, o, l))) ++ [.cells [.p (iv u.Sym), .p (.sl none 2 (List.map row_Tree u.Kids))], .arr 0 3 (List.map (rowA row_repair_labeled) s1)])) (N := fun (s1 : (List repair_labeled)) => ⟨[(4, .ptr 1 0), (7, (get E 7)), (9, .ptr 5 0), (11, .ptr σ.length 0), (12, .p (iv (w64 ((l : Int) - (u.Kids.length : Int))))), (13, .ms (σ.length + 1) 0 3 0 ((a.States).toNat))], ((yS σ (some (g, o, l))) ++ [.cells [.p (iv u.Sym), .p (.sl none 2 (List.map row_Tree u.Kids))], .arr 0 3 (List.map (rowA row_repair_labeled) s1)]), [], none, false⟩) h (by first | rfl | (simp only [go_sem, hE4, hE9, yl, b1, f5, f4, f45, hp, g0, gk, s0, sk, t0, tk, tx, lt, lE, lE0]; done) | (simp only [go_sem, hE4, hE9, yl, b1, f5, f4, f45, hp, g0, gk, s0, sk, t0, tk, tx, lt, lE, lE0]; rfl)) (by first | rfl | (simp only [go_sem, hE4, hE9, yl, b1, f5, f4, f45, hp, g0, gk, s0, sk, t0, tk, tx, lt, lE, lE0]; done) | (simp only [go_sem, hE4, hE9, yl, b1, f5, f4, f45, hp, g0, gk, s0, sk, t0, tk, tx, lt, lE, lE0]; rfl)) (fun _ _ => rfl) ?_ ?_ ?_
  · intro s1 h
    try dsimp only at h ⊢
    simp only [go_sem, hE4, hE9, yl, b1, f5, f4, f45, hp, g0, gk, s0, sk, t0, tk, tx, lt, lE, lE0]
    refine run_rangeL (c := L10_4) (live := [4, 7, 9, 11, 12, 13, 58, 59, 60]) (by simp only [go_sem]) (M := fun i2 (s2 : (List repair_labeled)) => [(4, .ptr 1 0), (7, (get E 7)), (9, .ptr 5 0), (11, .ptr σ.length 0), (12, .p (iv (w64 ((l : Int) - (u.Kids.length : Int))))), (13, .ms (σ.length + 1) 0 3 0 ((a.States).toNat)), (58, .p (.sl none 3 (List.map row_Rule a.Rules))), (59, .p (iv (a.Rules.length : Int))), (60, .p (iv (i2 : Int)))]) (Z := fun i2 (s2 : (List repair_labeled)) => ((yS σ (some (g, o, l))) ++ [.cells [.p (iv u.Sym), .p (.sl none 2 (List.map row_Tree u.Kids))], .arr 0 3 (List.map (rowA row_repair_labeled) s2)])) (N := fun (s2 : (List repair_labeled)) => ⟨[(4, .ptr 1 0), (7, (get E 7)), (9, .ptr 5 0), (12, .p (iv (w64 ((l : Int) - (u.Kids.length : Int))))), (13, .ms (σ.length + 1) 0 3 0 ((a.States).toNat))], ((yS σ (some (g, o, l))) ++ [.cells [.p (iv u.Sym), .p (.sl none 2 (List.map row_Tree u.Kids))], .arr 0 3 (List.map (rowA row_repair_labeled) s2)]), [], none, false⟩) h (by first | rfl | (simp only [go_sem, hE4, hE9, yl, b1, f5, f4, f45, hp, g0, gk, s0, sk, t0, tk, tx, lt, lE, lE0]; done) | (simp only [go_sem, hE4, hE9, yl, b1, f5, f4, f45, hp, g0, gk, s0, sk, t0, tk, tx, lt, lE, lE0]; rfl)) (by first | rfl | (simp only [go_sem, hE4, hE9, yl, b1, f5, f4, f45, hp, g0, gk, s0, sk, t0, tk, tx, lt, lE, lE0]; done) | (simp only [go_sem, hE4, hE9, yl, b1, f5, f4, f45, hp, g0, gk, s0, sk, t0, tk, tx, lt, lE, lE0]; rfl)) (fun _ _ => rfl) ?_ ?_ ?_
    · intro s2 h
      try dsimp only at h ⊢
      obtain ⟨v2, e_v2, h⟩ := ob h
      obtain ⟨e_v2a, e_v2b, e_v2d⟩ := cutM_some e_v2
      obtain ⟨v3, e_v3, h⟩ := ob h
      have e_v3a := (allM_some e_v3).1
      have e_v3b := (allM_some e_v3).2
      try simp only [Nat.zero_add] at e_v3a
      try simp only [List.drop_zero] at e_v3b
      obtain ⟨v4, e_v4, h⟩ := ob h
      have e_v4a := (appM_some e_v4).1
      have e_v4b : boundOk (v2 + 1) 24 = true := bnd_of (by have := (appM_some e_v4).2.1; simpa using this) (by decide)
      have e_v4c : List.map (rowA (rowL 3 row_repair_labeled)) (List.take v2 o) ++ [[AV.p (.sl none 3 (List.map row_repair_labeled v3))]] = List.map (rowA (rowL 3 row_repair_labeled)) v4 := by rw [← (appM_some e_v4).2.2]; simp [rowA, rowL, row_repair_labeled_eq]
      simp only [go_sem, e_v2a, e_v2b, e_v2d, e_v3a, e_v3b, e_v4b, e_v4a, e_v4c, hE4, hE9, yl, b1, f5, f4, f45, hp, g0, gk, s0, sk, t0, tk, tx, lt, lE, lE0]
      injection h with h; subst h
      exact hK _ _
    · intro K2 s2 hb2 he2
      try dsimp only
      conv => arg 1; arg 7; unfold L10_4 loopAt S22.c10 Try.f10; simp only [loopIn, Option.getD_some, if_true]
      simp only [go_sem, he2, hE4, hE9, yl, b1, f5, f4, f45, hp, g0, gk, s0, sk, t0, tk, tx, lt, lE, lE0]
      exact hb2
    · intro K2 k2 i2 x2 s2 n2 hR2 hE2 hb2 hx2 hi2 hw2 ih2 h
      try dsimp only at h ⊢
      conv => arg 1; arg 7; unfold L10_4 loopAt S22.c10 Try.f10; simp only [loopIn, Option.getD_some, if_true]
      obtain ⟨v5, e_v5, h⟩ := ob h
      obtain ⟨e_v5a, e_v5b, e_v5d⟩ := cutM_some e_v5
      obtain ⟨v6, e_v6, h⟩ := ob h
      have e_v6c : call Try.prog T H (.fn 31) [.p (.agg [iv x2.Sym, .sl none 1 (List.map rowI x2.From), iv x2.To]), .p (.agg [iv u.Sym, .sl none 2 (List.map row_Tree u.Kids)]), .ms 0 g 1 v5 (l - v5)] [.arr g 1 (List.map (rowA (rowL 3 row_repair_labeled)) o)] = some (.ret (.p (.tup [.agg [iv v6.1.many, iv v6.1.tree.Sym, .sl none 2 (List.map row_Tree v6.1.tree.Kids)], bv v6.2])), [.arr g 1 (List.map (rowA (rowL 3 row_repair_labeled)) o)]) := spec31_xxq g x2 u o (l - v5) v5 v6 e_v6
      by_cases c1 : v6.2 = true
      · have h := iteT h c1
        obtain ⟨v7, e_v7, h⟩ := ob h
        obtain ⟨e_v7a, e_v7b, e_v7d⟩ := idxM_some e_v7
        obtain ⟨v8, e_v8, h⟩ := ob h
        have e_v8c : call Try.prog T H (.fn 32) [.p (.agg [iv v6.1.many, iv v6.1.tree.Sym, .sl none 2 (List.map row_Tree v6.1.tree.Kids)]), .p (.agg [iv v7.many, iv v7.tree.Sym, .sl none 2 (List.map row_Tree v7.tree.Kids)])] [] = some (.ret (.p (bv v8)), []) := spec32 n v6.1 v7 v8 e_v8
        by_cases c2 : v8 = true
        · have h := iteT h c2
          have e_y1 : List.set (List.map (rowA row_repair_labeled) s2) ((x2.To).toNat) [.p (iv v6.1.many), .p (iv v6.1.tree.Sym), .p (.sl none 2 (List.map row_Tree v6.1.tree.Kids))] = List.map (rowA row_repair_labeled) (List.set s2 ((x2.To).toNat) v6.1) := map_set' (by first | rfl | simp only [go_sem, List.map_cons, List.map_nil])
          simp only [go_sem, hx2, hi2, hw2, e_v5a, e_v5b, e_v5d, e_v6c, c1, e_v7a, e_v7b, e_v7d, e_v8c, c2, e_y1, hR2, hE2, hE4, hE9, yl, b1, f5, f4, f45, hp, g0, gk, s0, sk, t0, tk, tx, lt, lE, lE0]
          exact ih2 (List.set s2 ((x2.To).toNat) v6.1) h
        · have h := iteF h c2
          have c2 := eq_false_of_ne_true c2
          simp only [go_sem, hx2, hi2, hw2, e_v5a, e_v5b, e_v5d, e_v6c, c1, e_v7a, e_v7b, e_v7d, e_v8c, c2, hR2, hE2, hE4, hE9, yl, b1, f5, f4, f45, hp, g0, gk, s0, sk, t0, tk, tx, lt, lE, lE0]
          exact ih2 s2 h
      · have h := iteF h c1
        have c1 := eq_false_of_ne_true c1
        simp only [go_sem, hx2, hi2, hw2, e_v5a, e_v5b, e_v5d, e_v6c, c1, hR2, hE2, hE4, hE9, yl, b1, f5, f4, f45, hp, g0, gk, s0, sk, t0, tk, tx, lt, lE, lE0]
        exact ih2 s2 h
  · intro K1 i1 s1 hb1 he1
    try dsimp only
    conv => arg 1; arg 7; unfold L10_2 loopAt S22.c10 Try.f10; simp only [loopIn, Option.getD_some, if_true]
    simp only [go_sem, he1, hE4, hE9, yl, b1, f5, f4, f45, hp, g0, gk, s0, sk, t0, tk, tx, lt, lE, lE0]
    exact hb1
  · intro K1 k1 i1 s1 n1 hR1 hE1 hb1 hi1 hw1 ih1 h
    try dsimp only at h ⊢
    conv => arg 1; arg 7; unfold L10_2 loopAt S22.c10 Try.f10; simp only [loopIn, Option.getD_some, if_true]
    obtain ⟨v9, e_v9, h⟩ := ob h
    obtain ⟨e_v9a, e_v9b, e_v9d⟩ := idxM_some e_v9
    simp only [Int.toNat_natCast] at e_v9b
    simp only [Int.toNat_natCast] at e_v9d
    have e_y2 : List.set (List.map (rowA row_repair_labeled) s1) i1 [.p (iv (-1)), .p (iv v9.tree.Sym), .p (.sl none 2 (List.map row_Tree v9.tree.Kids))] = List.map (rowA row_repair_labeled) (List.set s1 i1 (repair_labeled.mk (-1) v9.tree)) := map_set' (by first | rfl | simp only [go_sem, List.map_cons, List.map_nil])
    simp only [go_sem, hi1, hw1, e_v9b, e_v9d, e_y2, hR1, hE1, hE4, hE9, yl, b1, f5, f4, f45, hp, g0, gk, s0, sk, t0, tk, tx, lt, lE, lE0]
    exact ih1 (List.set s1 i1 (repair_labeled.mk (-1) v9.tree)) h
end Rel
end Go.AM.S22

namespace Go.AM.S22
set_option maxRecDepth 100000
set_option maxHeartbeats 4000000
set_option linter.unusedVariables false
open Go Go.Proofs Go.AM
theorem Sat.callrange {n : Nat} {K : Ex × S → Option (Out × List AObj)} {Q : Out × List AObj → Prop} {s : S} {d : Option Nat} {A : Option (Out × List AObj)} (h : Sat A (fun y => Sat (rangeK n K (some (endCall s d y.2 y.1))) Q)) :
    Sat (rangeK n K (callR s d A)) Q := by
  obtain ⟨⟨o, σ⟩, rfl, h2⟩ := h
  exact h2
namespace Rel
open Go Go.Proofs Go.AM
def stp (n : Nat) (a : Automaton) (u : Tree) : PS → Option PS
  | none => (relRow0 n a u).bind fun r => some (some (1, r.1, r.2))
  | some (g, o, l) => (relRow n a u o l).bind fun r => some (some (g + 1, r.1, r.2))
structure WF (E : Env) (a : Automaton) (σ : List AObj) : Prop where
  len : 11 ≤ σ.length
  o1 : σ[1]? = some (.cells [.p (iv a.States), .p (.sl none 1 (List.map rowI a.Final)), .p (.sl none 3 (List.map row_Rule a.Rules))])
  o7 : σ[7]? = some (.loop 0 none 128 10 E [36, 37] A10_0 B10_0)
  o8 : σ[8]? = some (.cells [.yld 7])
  o10 : σ[10]? = some (.cells [.fn 65 [.ptr 10 0, .ptr 9 0, .ptr 8 0]])
def wS (σ : List AObj) (s : PS × Int) : List AObj := yS (σ.set 9 (.cells [.p (iv s.2)])) s.1
theorem wS_len (σ : List AObj) (s : PS × Int) : (wS σ s).length = σ.length := by unfold wS; rw [yS_len, List.length_set]
theorem wS_get (σ : List AObj) (s : PS × Int) {i : Nat} (h : i ≠ 4 ∧ i ≠ 5 ∧ i ≠ 9) : (wS σ s)[i]? = σ[i]? := by
  unfold wS; rw [yS_get _ _ ⟨h.1, h.2.1⟩, List.getElem?_set_ne (by omega)]
theorem wS_9 {σ : List AObj} (s : PS × Int) (h : 11 ≤ σ.length) : (wS σ s)[9]? = some (.cells [.p (iv s.2)]) := by
  unfold wS; rw [yS_get _ _ (by decide), List.getElem?_set_self (by omega)]
theorem wS_set9 (σ : List AObj) (s : PS × Int) (m : Int) : (wS σ s).set 9 (.cells [.p (iv m)]) = wS σ (s.1, m) := by
  unfold wS yS
  simp only []
  rw [List.set_comm _ _ (by decide : 5 ≠ 9), List.set_comm _ _ (by decide : 4 ≠ 9), List.set_set]
theorem wS_app {σ : List AObj} (s : PS × Int) (h : 11 ≤ σ.length) (l : List AObj) : wS σ s ++ l = wS (σ ++ l) s := by
  unfold wS
  rw [yS_app _ (by simp; omega), List.set_append_left _ _ (by omega)]
theorem WF.app {E : Env} {a : Automaton} {σ : List AObj} (h : WF E a σ) (l : List AObj) : WF E a (σ ++ l) where
  len := by rw [List.length_append]; have := h.len; omega
  o1 := by rw [List.getElem?_append_left (by have := h.len; omega)]; exact h.o1
  o7 := by rw [List.getElem?_append_left (by have := h.len; omega)]; exact h.o7
  o8 := by rw [List.getElem?_append_left (by have := h.len; omega)]; exact h.o8
  o10 := by rw [List.getElem?_append_left (by have := h.len; omega)]; exact h.o10
theorem set_back {α : Type} {l : List α} {i : Nat} {a : α} (h : l[i]? = some a) : l.set i a = l := by
  apply List.ext_getElem?
  intro j
  by_cases e : i = j
  · subst e
    have := (List.getElem?_eq_some_iff.mp h).1
    rw [List.getElem?_set_self this, h]
  · rw [List.getElem?_set_ne e]
theorem yld_spec {E : Env} (hE4 : get E 4 = .ptr 1 0) (hE9 : get E 9 = .ptr 5 0) (hEl : ∀ t, ltV 7 (get E t) = true) (n : Nat) (a : Automaton) {σ : List AObj} (w : WF E a σ) (u : Tree) (s : PS × Int) (p : PS) (h : stp n a u s.1 = some p) (i : Int) (l : List AObj) :
    call Try.prog T H (.yld 7) [.p (iv i), .p (.agg [iv u.Sym, .sl none 2 (List.map row_Tree u.Kids)])] (wS σ s ++ l) = some (.ret (.p (bv true)), wS σ (p, s.2) ++ l) := by
  refine Sat.fn fun Q hQ => ?_
  have hl := w.len
  have e1 : ∀ q : PS, wS σ (q, s.2) ++ l = yS (σ.set 9 (.cells [.p (iv s.2)]) ++ l) q := fun q => by unfold wS; rw [yS_app _ (by simp; omega)]
  have e1s : wS σ s ++ l = yS (σ.set 9 (.cells [.p (iv s.2)]) ++ l) s.1 := e1 s.1
  rw [e1s]
  rw [e1 p] at hQ
  have r7 : (σ.set 9 (.cells [.p (iv s.2)]) ++ l)[7]? = some (.loop 0 none 128 10 E [36, 37] A10_0 B10_0) := by rw [List.getElem?_append_left (by simp; omega), List.getElem?_set_ne (by decide)]; exact w.o7
  have r1 : (σ.set 9 (.cells [.p (iv s.2)]) ++ l)[1]? = some (.cells [.p (iv a.States), .p (.sl none 1 (List.map rowI a.Final)), .p (.sl none 3 (List.map row_Rule a.Rules))]) := by rw [List.getElem?_append_left (by simp; omega), List.getElem?_set_ne (by decide)]; exact w.o1
  have rl : 8 ≤ (σ.set 9 (.cells [.p (iv s.2)]) ++ l).length := by simp; omega
  generalize σ.set 9 (.cells [.p (iv s.2)]) ++ l = ρ at r7 r1 rl hQ ⊢
  have y7 : ∀ q, (yS ρ q)[7]? = some (.loop 0 none 128 10 E [36, 37] A10_0 B10_0) := fun q => by rw [yS_get _ _ (by decide)]; exact r7
  have a7 : ∀ q k, (yS ρ q ++ k)[7]? = some (.loop 0 none 128 10 E [36, 37] A10_0 B10_0) := fun q k => by rw [List.getElem?_append_left (by rw [yS_len]; omega)]; exact y7 q
  have s7 : ∀ q k, (yS ρ q ++ k).set 7 (.loop 1 none 128 10 E [36, 37] A10_0 B10_0) = yS (ρ.set 7 (.loop 1 none 128 10 E [36, 37] A10_0 B10_0)) q ++ k := fun q k => by
    rw [List.set_append_left _ _ (by rw [yS_len]; omega)]
    unfold yS
    rw [List.set_comm _ _ (by decide : 5 ≠ 7), List.set_comm _ _ (by decide : 4 ≠ 7)]
  have b7 : ∀ q k, (yS (ρ.set 7 (.loop 1 none 128 10 E [36, 37] A10_0 B10_0)) q ++ k)[7]? = some (.loop 1 none 128 10 E [36, 37] A10_0 B10_0) := fun q k => by
    rw [List.getElem?_append_left (by rw [yS_len, List.length_set]; omega), yS_get _ _ (by decide), List.getElem?_set_self (by omega)]
  have c7 : ∀ q k, (yS (ρ.set 7 (.loop 1 none 128 10 E [36, 37] A10_0 B10_0)) q ++ k).set 7 (.loop 0 none 128 10 E [36, 37] A10_0 B10_0) = yS ρ q ++ k := fun q k => by
    rw [List.set_append_left _ _ (by rw [yS_len, List.length_set]; omega)]
    unfold yS
    rw [List.set_comm _ _ (by decide : 5 ≠ 7), List.set_comm _ _ (by decide : 4 ≠ 7), List.set_set, set_back r7]
  have t7 : ∀ q k, (yS ρ q ++ k).take ρ.length = yS ρ q := fun q k => by
    rw [← yS_len ρ q, List.take_left']; rfl
  have g0 : ∀ s l, (yS ρ s ++ l)[ρ.length]? = l[0]? := fun s l => sA0 (yS_len ρ s)
  have s0 : ∀ s l y, (yS ρ s ++ l).set ρ.length y = yS ρ s ++ l.set 0 y := fun s l y => sS0 (yS_len ρ s)
  rw [call_yld (h := y7 s.1) (hok := yo10_0) (hl := rfl)]
  conv => arg 1; arg 7; unfold A10_0 rangeA S22.c10 Try.f10; simp only [rangeIn, Option.getD_some, if_true]
  simp only [go_sem, asgK, setSt, Option.getD_none, yS_len, g0, s0, a7, s7]
  have lens : (ρ.set 7 (.loop 1 none 128 10 E [36, 37] A10_0 B10_0)).length = ρ.length := List.length_set ..
  have fin : ∀ (q : PS) (env : Env) (loc : List AObj), p = q → Sat (yldK 7 ρ.length (.normal, ⟨env, yS (ρ.set 7 (.loop 1 none 128 10 E [36, 37] A10_0 B10_0)) q ++ loc, [], none, false⟩)) Q := fun q env loc e => by
    subst e
    rw [yldK_normal 7 ρ.length _ (setSt_eq (b7 p loc))]
    simp only [Option.getD_some, c7, t7]
    exact Sat.ok hQ
  rcases hs : s.1 with _ | ⟨g, o, m⟩
  · rw [hs] at h
    obtain ⟨r, e_r, h⟩ := ob h
    injection h with h
    have q := relRow0_spec hE4 hE9 hEl (σ := ρ.set 7 (.loop 1 none 128 10 E [36, 37] A10_0 B10_0)) (by rw [lens]; exact rl) n a u (by rw [List.getElem?_set_ne (by decide)]; exact r1) r e_r i (yldK 7 ρ.length) Q (fun env loc => fin _ env loc h.symm)
    rw [lens] at q
    exact q
  · rw [hs] at h
    obtain ⟨r, e_r, h⟩ := ob h
    injection h with h
    have q := relRow_spec hE4 hE9 hEl (σ := ρ.set 7 (.loop 1 none 128 10 E [36, 37] A10_0 B10_0)) (by rw [lens]; exact rl) n a u g o m (by rw [List.getElem?_set_ne (by decide)]; exact r1) r e_r i (yldK 7 ρ.length) Q (fun env loc => fin _ env loc h.symm)
    rw [lens] at q
    exact q
def walk (n : Nat) (a : Automaton) : Nat → Tree → PS × Int → Option (PS × Int)
  | 0, _, _ => none
  | k + 1, t, s =>
    rangeL t.Kids s (fun _ _ x1 s1 n1 => (walk n a k x1 s1).bind fun v => n1 v) fun s1 =>
    (stp n a t s1.1).bind fun p => some (p, w64 (s1.2 + 1))
theorem spec65 {E : Env} (hE4 : get E 4 = .ptr 1 0) (hE9 : get E 9 = .ptr 5 0) (hEl : ∀ t, ltV 7 (get E t) = true) (n : Nat) (a : Automaton) : ∀ (k : Nat) (σ : List AObj) (w : WF E a σ) (t : Tree) (s r : PS × Int), walk n a k t s = some r →
    call Try.prog T H (.fn 65) [.p (.agg [iv t.Sym, .sl none 2 (List.map row_Tree t.Kids)]), .ptr 10 0, .ptr 9 0, .ptr 8 0] (wS σ s) = some (.ret (.p (bv true)), wS σ r) := by
  intro k
  induction k with
  | zero => intro σ w t s r h; cases h
  | succ k ih =>
    intro σ w t s r h
    refine Sat.fn fun Q hQ => ?_
    rw [walk] at h
    have hl := w.len
    have b9n : ∀ s, (wS σ s)[9]? = some (.cells [.p (iv s.2)]) := fun s => wS_9 _ hl
    have b9 : ∀ s l, (wS σ s ++ l)[9]? = some (.cells [.p (iv s.2)]) := fun s l => by rw [List.getElem?_append_left (by rw [wS_len]; omega), wS_9 _ hl]
    have b8 : ∀ s l, (wS σ s ++ l)[8]? = some (.cells [.yld 7]) := fun s l => by rw [List.getElem?_append_left (by rw [wS_len]; omega), wS_get _ _ (by decide), w.o8]
    have b10 : ∀ s l, (wS σ s ++ l)[10]? = some (.cells [.fn 65 [.ptr 10 0, .ptr 9 0, .ptr 8 0]]) := fun s l => by rw [List.getElem?_append_left (by rw [wS_len]; omega), wS_get _ _ (by decide), w.o10]
    have bs9 : ∀ s l m, (wS σ s ++ l).set 9 (.cells [.p (iv m)]) = wS σ (s.1, m) ++ l := fun s l m => by rw [List.set_append_left _ _ (by rw [wS_len]; omega), wS_set9]
    have g0 : ∀ s l, (wS σ s ++ l)[σ.length]? = l[0]? := fun s l => sA0 (wS_len σ s)
    have gk : ∀ s l k, (wS σ s ++ l)[σ.length + k]? = l[k]? := fun s l k => sAK (wS_len σ s)
    have s0 : ∀ s l y, (wS σ s ++ l).set σ.length y = wS σ s ++ l.set 0 y := fun s l y => sS0 (wS_len σ s)
    have sk : ∀ s l y k, (wS σ s ++ l).set (σ.length + k) y = wS σ s ++ l.set k y := fun s l y k => sSK (wS_len σ s)
    have t0 : ∀ s l, (wS σ s ++ l).take σ.length = wS σ s := fun s l => sT0 (wS_len σ s)
    have tk : ∀ s l k, (wS σ s ++ l).take (σ.length + k) = wS σ s ++ l.take k := fun s l k => sTK (wS_len σ s)
    have tx : ∀ s, (wS σ s).take σ.length = wS σ s := fun s => sTX (wS_len σ s)
    have l10 : ∀ k, 10 < σ.length + k ∧ 9 < σ.length + k ∧ 8 < σ.length + k := fun k => by omega
    rw [call65]
    conv => arg 1; arg 7; unfold S22.c65 Try.f65; simp only [Option.getD_some]
    simp only [go_sem, wS_len, b9, b9n, b8, b10, bs9, g0, gk, s0, sk, t0, tk, tx]
    refine run_rangeL (c := L65_0) (live := [1, 2, 3, 4, 9, 10, 11]) (by simp only [go_sem]) (M := fun i1 (s1 : PS × Int) => [(1, .ptr 10 0), (2, .ptr 9 0), (3, .ptr 8 0), (4, .ptr σ.length 0), (9, .p (.sl none 2 (List.map row_Tree t.Kids))), (10, .p (iv (t.Kids.length : Int))), (11, .p (iv (i1 : Int)))]) (Z := fun i1 s1 => wS σ s1 ++ [.cells [.p (iv t.Sym), .p (.sl none 2 (List.map row_Tree t.Kids))]]) (N := fun s1 => ⟨[(2, .ptr 9 0), (3, .ptr 8 0), (4, .ptr σ.length 0)], wS σ s1 ++ [.cells [.p (iv t.Sym), .p (.sl none 2 (List.map row_Tree t.Kids))]], [], none, false⟩) h rfl rfl (fun _ _ => rfl) ?_ ?_ ?_
    · intro s1 h
      try dsimp only at h ⊢
      obtain ⟨p, e_p, h⟩ := ob h
      injection h with h; subst h
      have yy : ∀ i l, call Try.prog T H (.yld 7) [.p (iv i), .p (.agg [iv t.Sym, .sl none 2 (List.map row_Tree t.Kids)])] (wS σ (s1.1, w64 (s1.2 + 1)) ++ l) = some (.ret (.p (bv true)), wS σ (p, w64 (s1.2 + 1)) ++ l) := fun i l => yld_spec hE4 hE9 hEl n a w t (s1.1, w64 (s1.2 + 1)) p e_p i l
      simp only [go_sem, wS_len, b9, b9n, b8, b10, bs9, g0, gk, s0, sk, t0, tk, tx, yy]
      exact Sat.ok hQ
    · intro K1 s1 hb1 he1
      try dsimp only
      conv => arg 1; arg 7; unfold L65_0 loopAt S22.c65 Try.f65; simp only [loopIn, Option.getD_some, if_true]
      simp only [go_sem, he1, wS_len, b9, b9n, b8, b10, bs9, g0, gk, s0, sk, t0, tk, tx, l10]
      exact hb1
    · intro K1 k1 i1 x1 s1 n1 hR1 hE1 hb1 hx1 hi1 hw1 ih1 h
      try dsimp only at h ⊢
      conv => arg 1; arg 7; unfold L65_0 loopAt S22.c65 Try.f65; simp only [loopIn, Option.getD_some, if_true]
      obtain ⟨v2, e_v2, h⟩ := ob h
      have e_v2c : ∀ l, call Try.prog T H (.fn 65) [.p (.agg [iv x1.Sym, .sl none 2 (List.map row_Tree x1.Kids)]), .ptr 10 0, .ptr 9 0, .ptr 8 0] (wS σ s1 ++ l) = some (.ret (.p (bv true)), wS σ v2 ++ l) := fun l => by
        have q := ih (σ ++ l) (w.app l) x1 s1 v2 e_v2
        rw [← wS_app _ hl, ← wS_app _ hl] at q
        exact q
      simp only [go_sem, hx1, hi1, hw1, e_v2c, hR1, hE1, wS_len, b9, b9n, b8, b10, bs9, g0, gk, s0, sk, t0, tk, tx, l10]
      exact ih1 v2 h
end Rel
end Go.AM.S22

namespace Go.AM.S22
namespace Hol
open Go Go.Proofs Go.AM
set_option maxRecDepth 100000
set_option linter.unusedVariables false
set_option maxHeartbeats 4000000
abbrev PS := Option (Nat × List (List repair_holes) × Nat)
def pv : PS → AV
  | none => .nms 4 1
  | some (g, _, n) => .ms 4 g 1 0 n
def po : PS → AObj
  | none => .dead
  | some (g, l, _) => .arr g 1 (List.map (rowA (rowL 3 row_repair_holes)) l)
def yS (σ : List AObj) (s : PS) : List AObj := (σ.set 4 (po s)).set 5 (.cells [pv s])
theorem yS_len (σ : List AObj) (s : PS) : (yS σ s).length = σ.length := by simp [yS]
theorem yS_get (σ : List AObj) (s : PS) {i : Nat} (h : i ≠ 4 ∧ i ≠ 5) : (yS σ s)[i]? = σ[i]? := by
  unfold yS; rw [List.getElem?_set_ne (by omega), List.getElem?_set_ne (by omega)]
theorem yS_4 {σ : List AObj} (s : PS) (h : 8 ≤ σ.length) : (yS σ s)[4]? = some (po s) := by
  unfold yS; rw [List.getElem?_set_ne (by decide), List.getElem?_set_self (by omega)]
theorem yS_5 {σ : List AObj} (s : PS) (h : 8 ≤ σ.length) : (yS σ s)[5]? = some (.cells [pv s]) := by
  unfold yS; rw [List.getElem?_set_self (by simp; omega)]
theorem yS_set (σ : List AObj) (s p : PS) : ((yS σ s).set 4 (po p)).set 5 (.cells [pv p]) = yS σ p := by
  unfold yS
  rw [List.set_comm _ _ (by decide : 5 ≠ 4), List.set_set, List.set_set]
theorem yS_app {σ : List AObj} (s : PS) (h : 8 ≤ σ.length) (l : List AObj) : yS σ s ++ l = yS (σ ++ l) s := by
  unfold yS
  rw [List.set_append_left _ _ (by omega), List.set_append_left _ _ (by simp; omega)]
def holRow0 (n : Nat) (a : Automaton) (z : List Int) (u : Tree) : Option (List (List repair_holes) × Nat) :=
  (mkz 40 a.States a.States (repair_holes.mk false 0 ([] : List (List Int)))).bind fun v1 =>
  rangeI ((a.States).toNat : Int) v1 (fun k1 i1 (s1 : (List repair_holes)) n1 =>
    (z[i1]?).bind fun v9 =>
    (tree_Size n u).bind fun v10 =>
    (idxM ((a.States).toNat) s1 (i1 : Int)).bind fun v11 =>
    n1 (List.set s1 i1 (repair_holes.mk (decide (0 < v9)) v10 [([] : List Int)]))) fun s1 =>
  rangeL a.Rules s1 (fun k2 i2 x2 (s2 : (List repair_holes)) n2 =>
    (cutM 0 (w64 (0 - (u.Kids.length : Int)))).bind fun v5 =>
    (repair_within x2 u ([] : List (List repair_holes))).bind fun v6 =>
    if v6.2 = true then
      (idxM ((a.States).toNat) s2 x2.To).bind fun v7 =>
      (repair_fewer v6.1 v7).bind fun v8 =>
      if v8 = true then
        n2 (List.set s2 ((x2.To).toNat) v6.1)
      else
        n2 s2
    else
      n2 s2) fun s2 =>
  (cutM 0 (w64 (0 - (u.Kids.length : Int)))).bind fun v2 =>
  (allM 0 ((a.States).toNat) s2).bind fun v3 =>
  (appM 24 0 ([] : List (List repair_holes)) [v3]).bind fun v4 =>
  some (v4, 1)
theorem holRow0_spec {E : Env} (hE4 : get E 4 = .ptr 1 0) (hE10 : get E 10 = .ptr 5 0) (hE8 : get E 8 = .ptr 3 0) (hEl : ∀ t, ltV 7 (get E t) = true) {σ : List AObj} (hl : 8 ≤ σ.length) (n : Nat) (a : Automaton) (z : List Int) (u : Tree) (o1 : σ[1]? = some (.cells [.p (iv a.States), .p (.sl none 1 (List.map rowI a.Final)), .p (.sl none 3 (List.map row_Rule a.Rules))])) (o3 : σ[3]? = some (.cells [.p (.sl none 1 (List.map rowI z))]))  (r : List (List repair_holes) × Nat) (h : holRow0 n a z u = some r) (i : Int) (K : Ex × S → Option (Out × List AObj)) (Q : Out × List AObj → Prop)
    (hK : ∀ env loc, Sat (K (.normal, ⟨env, yS σ (some (1, r.1, r.2)) ++ loc, [], none, false⟩)) Q) :
    Sat (run Try.prog T H 13 σ.length 0 B13_0 ⟨(12, .ptr σ.length 0) :: (45, .p (iv i)) :: (46, .p (.agg [iv u.Sym, .sl none 2 (List.map row_Tree u.Kids)])) :: E, (yS σ none) ++ [.cells [.p (iv u.Sym), .p (.sl none 2 (List.map row_Tree u.Kids))]], [], none, false⟩ K) Q := by
  unfold holRow0 at h
  have yl := fun s => yS_len σ s
  have b1 : ∀ s l, (yS σ s ++ l)[1]? = some (.cells [.p (iv a.States), .p (.sl none 1 (List.map rowI a.Final)), .p (.sl none 3 (List.map row_Rule a.Rules))]) := fun s l => by rw [List.getElem?_append_left (by rw [yS_len]; omega), yS_get _ _ (by decide), o1]
  have b3 : ∀ s l, (yS σ s ++ l)[3]? = some (.cells [.p (.sl none 1 (List.map rowI z))]) := fun s l => by rw [List.getElem?_append_left (by rw [yS_len]; omega), yS_get _ _ (by decide), o3]
  have f5 : ∀ k, (yS σ none ++ k)[5]? = some (.cells [.nms 4 1]) := fun k => by rw [List.getElem?_append_left (by rw [yS_len]; omega), yS_5 _ (by omega)]; rfl
  have fd : ∀ k, (yS σ none ++ k)[4]? = some .dead := fun k => by rw [List.getElem?_append_left (by rw [yS_len]; omega), yS_4 _ (by omega)]; rfl
  have f45 : ∀ k X, ((yS σ none ++ k).set 4 X)[5]? = some (.cells [.nms 4 1]) := fun k X => by rw [List.getElem?_set_ne (by decide)]; exact f5 k
  have hp : ∀ k v m, ((yS σ none ++ k).set 4 (.arr 1 1 (List.map (rowA (rowL 3 row_repair_holes)) v))).set 5 (.cells [.ms 4 1 1 0 m]) = yS σ (some (1, v, m)) ++ k := fun k v m => by rw [List.set_append_left _ _ (by rw [yS_len]; omega), List.set_append_left _ _ (by rw [List.length_set, yS_len]; omega)]; exact congrArg (· ++ k) (yS_set σ _ (some (1, v, m)))
  have g0 : ∀ s l, (yS σ s ++ l)[σ.length]? = l[0]? := fun s l => sA0 (yS_len σ s)
  have gk : ∀ s l k, (yS σ s ++ l)[σ.length + k]? = l[k]? := fun s l k => sAK (yS_len σ s)
  have s0 : ∀ s l y, (yS σ s ++ l).set σ.length y = yS σ s ++ l.set 0 y := fun s l y => sS0 (yS_len σ s)
  have sk : ∀ s l y k, (yS σ s ++ l).set (σ.length + k) y = yS σ s ++ l.set k y := fun s l y k => sSK (yS_len σ s)
  have t0 : ∀ s l, (yS σ s ++ l).take σ.length = yS σ s := fun s l => sT0 (yS_len σ s)
  have tk : ∀ s l k, (yS σ s ++ l).take (σ.length + k) = yS σ s ++ l.take k := fun s l k => sTK (yS_len σ s)
  have tx : ∀ s, (yS σ s).take σ.length = yS σ s := fun s => sTX (yS_len σ s)
  have lt : ∀ k, 1 < σ.length + k ∧ 3 < σ.length + k ∧ 4 < σ.length + k ∧ 5 < σ.length + k := fun k => by omega
  have lE : ∀ t k, ltV (σ.length + k) (get E t) = true := fun t k => ltV_mono (by omega) _ (hEl t)
  have lE0 : ∀ t, ltV σ.length (get E t) = true := fun t => ltV_mono (by omega) _ (hEl t)
  conv => arg 1; arg 7; unfold B13_0 rangeB S22.c13 Try.f13; simp only [rangeIn, Option.getD_some, if_true]
  obtain ⟨v1, e_v1, h⟩ := ob h
  obtain ⟨e_v11, e_v12, e_v13, e_v14⟩ := mkz_some e_v1
  have e_v1b : boundOk (a.States).toNat 40 = true := bnd_of e_v13 (by decide)
  have e_v1r : List.replicate (a.States).toNat [AV.p (bv false), AV.p (iv 0), AV.p (.sl none 1 [])] = List.map (rowA row_repair_holes) v1 := by rw [e_v14]; exact rep_map (by first | rfl | simp only [go_sem, List.map_nil])
  simp only [go_sem, e_v11, e_v12, e_v1b, e_v1r, hE4, hE10, hE8, yl, b1, b3, f5, fd, f45, hp, g0, gk, s0, sk, t0, tk, tx, lt, lE, lE0]
  refine run_rangeI (c := L13_2) (live := [4, 8, 10, 12, 13, 14, 57, 58]) (by simp only [go_sem]) (M := fun i1 (s1 : (List repair_holes)) => [(4, .ptr 1 0), (8, .ptr 3 0), (10, .ptr 5 0), (12, .ptr σ.length 0), (13, .p (iv (w64 (0 - (u.Kids.length : Int))))), (14, .ms (σ.length + 1) 0 3 0 ((a.States).toNat)), (57, .p (iv ((a.States).toNat : Int))), (58, .p (iv (i1 : Int)))]) (Z := fun i1 (s1 : (List repair_holes)) => ((yS σ none) ++ [.cells [.p (iv u.Sym), .p (.sl none 2 (List.map row_Tree u.Kids))], .arr 0 3 (List.map (rowA row_repair_holes) s1)])) (N := fun (s1 : (List repair_holes)) => ⟨[(4, .ptr 1 0), (8, .ptr 3 0), (10, .ptr 5 0), (12, .ptr σ.length 0), (13, .p (iv (w64 (0 - (u.Kids.length : Int))))), (14, .ms (σ.length + 1) 0 3 0 ((a.States).toNat))], ((yS σ none) ++ [.cells [.p (iv u.Sym), .p (.sl none 2 (List.map row_Tree u.Kids))], .arr 0 3 (List.map (rowA row_repair_holes) s1)]), [], none, false⟩) h (by first | rfl | (simp only [go_sem, hE4, hE10, hE8, yl, b1, b3, f5, fd, f45, hp, g0, gk, s0, sk, t0, tk, tx, lt, lE, lE0]; done) | (simp only [go_sem, hE4, hE10, hE8, yl, b1, b3, f5, fd, f45, hp, g0, gk, s0, sk, t0, tk, tx, lt, lE, lE0]; rfl)) (by first | rfl | (simp only [go_sem, hE4, hE10, hE8, yl, b1, b3, f5, fd, f45, hp, g0, gk, s0, sk, t0, tk, tx, lt, lE, lE0]; done) | (simp only [go_sem, hE4, hE10, hE8, yl, b1, b3, f5, fd, f45, hp, g0, gk, s0, sk, t0, tk, tx, lt, lE, lE0]; rfl)) (fun _ _ => rfl) ?_ ?_ ?_
  · intro s1 h
    try dsimp only at h ⊢
    simp only [go_sem, hE4, hE10, hE8, yl, b1, b3, f5, fd, f45, hp, g0, gk, s0, sk, t0, tk, tx, lt, lE, lE0]
    refine run_rangeL (c := L13_4) (live := [4, 8, 10, 12, 13, 14, 76, 77, 78]) (by simp only [go_sem]) (M := fun i2 (s2 : (List repair_holes)) => [(4, .ptr 1 0), (8, .ptr 3 0), (10, .ptr 5 0), (12, .ptr σ.length 0), (13, .p (iv (w64 (0 - (u.Kids.length : Int))))), (14, .ms (σ.length + 1) 0 3 0 ((a.States).toNat)), (76, .p (.sl none 3 (List.map row_Rule a.Rules))), (77, .p (iv (a.Rules.length : Int))), (78, .p (iv (i2 : Int)))]) (Z := fun i2 (s2 : (List repair_holes)) => ((yS σ none) ++ [.cells [.p (iv u.Sym), .p (.sl none 2 (List.map row_Tree u.Kids))], .arr 0 3 (List.map (rowA row_repair_holes) s2)])) (N := fun (s2 : (List repair_holes)) => ⟨[(4, .ptr 1 0), (8, .ptr 3 0), (10, .ptr 5 0), (13, .p (iv (w64 (0 - (u.Kids.length : Int))))), (14, .ms (σ.length + 1) 0 3 0 ((a.States).toNat))], ((yS σ none) ++ [.cells [.p (iv u.Sym), .p (.sl none 2 (List.map row_Tree u.Kids))], .arr 0 3 (List.map (rowA row_repair_holes) s2)]), [], none, false⟩) h (by first | rfl | (simp only [go_sem, hE4, hE10, hE8, yl, b1, b3, f5, fd, f45, hp, g0, gk, s0, sk, t0, tk, tx, lt, lE, lE0]; done) | (simp only [go_sem, hE4, hE10, hE8, yl, b1, b3, f5, fd, f45, hp, g0, gk, s0, sk, t0, tk, tx, lt, lE, lE0]; rfl)) (by first | rfl | (simp only [go_sem, hE4, hE10, hE8, yl, b1, b3, f5, fd, f45, hp, g0, gk, s0, sk, t0, tk, tx, lt, lE, lE0]; done) | (simp only [go_sem, hE4, hE10, hE8, yl, b1, b3, f5, fd, f45, hp, g0, gk, s0, sk, t0, tk, tx, lt, lE, lE0]; rfl)) (fun _ _ => rfl) ?_ ?_ ?_
    · intro s2 h
      try dsimp only at h ⊢
      obtain ⟨v2, e_v2, h⟩ := ob h
      obtain ⟨e_v2a, e_v2b, e_v2d⟩ := cutM_some e_v2
      have e_v2z : v2 = 0 := Nat.le_zero.1 e_v2b
      obtain ⟨v3, e_v3, h⟩ := ob h
      have e_v3a := (allM_some e_v3).1
      have e_v3b := (allM_some e_v3).2
      try simp only [Nat.zero_add] at e_v3a
      try simp only [List.drop_zero] at e_v3b
      obtain ⟨v4, e_v4, h⟩ := ob h
      have e_v4a := (appM_some e_v4).1
      have e_v4b : boundOk (1) 24 = true := by decide
      have e_v4l : v4.length = 1 := by rw [← (appM_some e_v4).2.2]; rfl
      have e_v4e : (List.map (rowA (rowL 3 row_repair_holes)) v4).isEmpty = false := by rw [← (appM_some e_v4).2.2]; rfl
      have e_v4c : [[AV.p (.sl none 3 (List.map row_repair_holes v3))]] = List.map (rowA (rowL 3 row_repair_holes)) v4 := by rw [← (appM_some e_v4).2.2]; simp [rowA, rowL, row_repair_holes_eq]
      simp only [go_sem, e_v2a, e_v2d, e_v2z, e_v3a, e_v3b, e_v4b, e_v4l, e_v4e, e_v4c, hE4, hE10, hE8, yl, b1, b3, f5, fd, f45, hp, g0, gk, s0, sk, t0, tk, tx, lt, lE, lE0]
      injection h with h; subst h
      exact hK _ _
    · intro K2 s2 hb2 he2
      try dsimp only
      conv => arg 1; arg 7; unfold L13_4 loopAt S22.c13 Try.f13; simp only [loopIn, Option.getD_some, if_true]
      simp only [go_sem, he2, hE4, hE10, hE8, yl, b1, b3, f5, fd, f45, hp, g0, gk, s0, sk, t0, tk, tx, lt, lE, lE0]
      exact hb2
    · intro K2 k2 i2 x2 s2 n2 hR2 hE2 hb2 hx2 hi2 hw2 ih2 h
      try dsimp only at h ⊢
      conv => arg 1; arg 7; unfold L13_4 loopAt S22.c13 Try.f13; simp only [loopIn, Option.getD_some, if_true]
      obtain ⟨v5, e_v5, h⟩ := ob h
      obtain ⟨e_v5a, e_v5b, e_v5d⟩ := cutM_some e_v5
      have e_v5z : v5 = 0 := Nat.le_zero.1 e_v5b
      obtain ⟨v6, e_v6, h⟩ := ob h
      have e_v6c : call Try.prog T H (.fn 39) [.p (.agg [iv x2.Sym, .sl none 1 (List.map rowI x2.From), iv x2.To]), .p (.agg [iv u.Sym, .sl none 2 (List.map row_Tree u.Kids)]), .p (.sl none 1 [])] [] = some (.ret (.p (.tup [.agg [bv v6.1.ok, iv v6.1.gone, .sl none 1 (List.map (rowL 1 rowI) v6.1.list)], bv v6.2])), []) := spec39 x2 u ([] : List (List repair_holes)) v6 e_v6
      by_cases c1 : v6.2 = true
      · have h := iteT h c1
        obtain ⟨v7, e_v7, h⟩ := ob h
        obtain ⟨e_v7a, e_v7b, e_v7d⟩ := idxM_some e_v7
        obtain ⟨v8, e_v8, h⟩ := ob h
        have e_v8c : call Try.prog T H (.fn 40) [.p (.agg [bv v6.1.ok, iv v6.1.gone, .sl none 1 (List.map (rowL 1 rowI) v6.1.list)]), .p (.agg [bv v7.ok, iv v7.gone, .sl none 1 (List.map (rowL 1 rowI) v7.list)])] [] = some (.ret (.p (bv v8)), []) := spec40 v6.1 v7 v8 e_v8
        by_cases c2 : v8 = true
        · have h := iteT h c2
          have e_y1 : List.set (List.map (rowA row_repair_holes) s2) ((x2.To).toNat) [.p (bv v6.1.ok), .p (iv v6.1.gone), .p (.sl none 1 (List.map (rowL 1 rowI) v6.1.list))] = List.map (rowA row_repair_holes) (List.set s2 ((x2.To).toNat) v6.1) := map_set' (by first | rfl | simp only [go_sem, List.map_cons, List.map_nil])
          simp only [go_sem, hx2, hi2, hw2, e_v5a, e_v5d, e_v5z, e_v6c, c1, e_v7a, e_v7b, e_v7d, e_v8c, c2, e_y1, hR2, hE2, hE4, hE10, hE8, yl, b1, b3, f5, fd, f45, hp, g0, gk, s0, sk, t0, tk, tx, lt, lE, lE0]
          exact ih2 (List.set s2 ((x2.To).toNat) v6.1) h
        · have h := iteF h c2
          have c2 := eq_false_of_ne_true c2
          simp only [go_sem, hx2, hi2, hw2, e_v5a, e_v5d, e_v5z, e_v6c, c1, e_v7a, e_v7b, e_v7d, e_v8c, c2, hR2, hE2, hE4, hE10, hE8, yl, b1, b3, f5, fd, f45, hp, g0, gk, s0, sk, t0, tk, tx, lt, lE, lE0]
          exact ih2 s2 h
      · have h := iteF h c1
        have c1 := eq_false_of_ne_true c1
        simp only [go_sem, hx2, hi2, hw2, e_v5a, e_v5d, e_v5z, e_v6c, c1, hR2, hE2, hE4, hE10, hE8, yl, b1, b3, f5, fd, f45, hp, g0, gk, s0, sk, t0, tk, tx, lt, lE, lE0]
        exact ih2 s2 h
  · intro K1 i1 s1 hb1 he1
    try dsimp only
    conv => arg 1; arg 7; unfold L13_2 loopAt S22.c13 Try.f13; simp only [loopIn, Option.getD_some, if_true]
    simp only [go_sem, he1, hE4, hE10, hE8, yl, b1, b3, f5, fd, f45, hp, g0, gk, s0, sk, t0, tk, tx, lt, lE, lE0]
    exact hb1
  · intro K1 k1 i1 s1 n1 hR1 hE1 hb1 hi1 hw1 ih1 h
    try dsimp only at h ⊢
    conv => arg 1; arg 7; unfold L13_2 loopAt S22.c13 Try.f13; simp only [loopIn, Option.getD_some, if_true]
    obtain ⟨v9, e_v9, h⟩ := ob h
    obtain ⟨v10, e_v10, h⟩ := ob h
    have e_v10c : call Try.prog T H (.fn 38) [.p (.agg [iv u.Sym, .sl none 2 (List.map row_Tree u.Kids)])] [] = some (.ret (.p (iv v10)), []) := spec38 n u v10 e_v10
    obtain ⟨v11, e_v11, h⟩ := ob h
    obtain ⟨e_v11a, e_v11b, e_v11d⟩ := idxM_some e_v11
    simp only [Int.toNat_natCast] at e_v11b
    simp only [Int.toNat_natCast] at e_v11d
    have e_y2 : List.set (List.map (rowA row_repair_holes) s1) i1 [.p (bv (decide (0 < v9))), .p (iv v10), .p (.sl none 1 [[.sl none 1 []]])] = List.map (rowA row_repair_holes) (List.set s1 i1 (repair_holes.mk (decide (0 < v9)) v10 [([] : List Int)])) := map_set' (by first | rfl | simp only [go_sem, List.map_cons, List.map_nil])
    simp only [go_sem, hi1, hw1, e_v9, e_v10c, e_v11b, e_v11d, e_y2, hR1, hE1, hE4, hE10, hE8, yl, b1, b3, f5, fd, f45, hp, g0, gk, s0, sk, t0, tk, tx, lt, lE, lE0]
    exact ih1 (List.set s1 i1 (repair_holes.mk (decide (0 < v9)) v10 [([] : List Int)])) h
def holRow (n : Nat) (a : Automaton) (z : List Int) (u : Tree) (o : List (List repair_holes)) (l : Nat) : Option (List (List repair_holes) × Nat) :=
  (mkz 40 a.States a.States (repair_holes.mk false 0 ([] : List (List Int)))).bind fun v1 =>
  rangeI ((a.States).toNat : Int) v1 (fun k1 i1 (s1 : (List repair_holes)) n1 =>
    (z[i1]?).bind fun v9 =>
    (tree_Size n u).bind fun v10 =>
    (idxM ((a.States).toNat) s1 (i1 : Int)).bind fun v11 =>
    n1 (List.set s1 i1 (repair_holes.mk (decide (0 < v9)) v10 [([] : List Int)]))) fun s1 =>
  rangeL a.Rules s1 (fun k2 i2 x2 (s2 : (List repair_holes)) n2 =>
    (cutM l (w64 ((l : Int) - (u.Kids.length : Int)))).bind fun v5 =>
    (repair_within_xxq x2 u o (l - v5) v5).bind fun v6 =>
    if v6.2 = true then
      (idxM ((a.States).toNat) s2 x2.To).bind fun v7 =>
      (repair_fewer v6.1 v7).bind fun v8 =>
      if v8 = true then
        n2 (List.set s2 ((x2.To).toNat) v6.1)
      else
        n2 s2
    else
      n2 s2) fun s2 =>
  (cutM l (w64 ((l : Int) - (u.Kids.length : Int)))).bind fun v2 =>
  (allM 0 ((a.States).toNat) s2).bind fun v3 =>
  (appM 24 v2 o [v3]).bind fun v4 =>
  some (v4, (v2 + 1))
theorem holRow_spec {E : Env} (hE4 : get E 4 = .ptr 1 0) (hE10 : get E 10 = .ptr 5 0) (hE8 : get E 8 = .ptr 3 0) (hEl : ∀ t, ltV 7 (get E t) = true) {σ : List AObj} (hl : 8 ≤ σ.length) (n : Nat) (a : Automaton) (z : List Int) (u : Tree) (g : Nat) (o : List (List repair_holes)) (l : Nat) (o1 : σ[1]? = some (.cells [.p (iv a.States), .p (.sl none 1 (List.map rowI a.Final)), .p (.sl none 3 (List.map row_Rule a.Rules))])) (o3 : σ[3]? = some (.cells [.p (.sl none 1 (List.map rowI z))]))  (r : List (List repair_holes) × Nat) (h : holRow n a z u o l = some r) (i : Int) (K : Ex × S → Option (Out × List AObj)) (Q : Out × List AObj → Prop)
    (hK : ∀ env loc, Sat (K (.normal, ⟨env, yS σ (some ((g + 1), r.1, r.2)) ++ loc, [], none, false⟩)) Q) :
    Sat (run Try.prog T H 13 σ.length 0 B13_0 ⟨(12, .ptr σ.length 0) :: (45, .p (iv i)) :: (46, .p (.agg [iv u.Sym, .sl none 2 (List.map row_Tree u.Kids)])) :: E, (yS σ (some (g, o, l))) ++ [.cells [.p (iv u.Sym), .p (.sl none 2 (List.map row_Tree u.Kids))]], [], none, false⟩ K) Q := by
  unfold holRow at h
  have yl := fun s => yS_len σ s
  have b1 : ∀ s l, (yS σ s ++ l)[1]? = some (.cells [.p (iv a.States), .p (.sl none 1 (List.map rowI a.Final)), .p (.sl none 3 (List.map row_Rule a.Rules))]) := fun s l => by rw [List.getElem?_append_left (by rw [yS_len]; omega), yS_get _ _ (by decide), o1]
  have b3 : ∀ s l, (yS σ s ++ l)[3]? = some (.cells [.p (.sl none 1 (List.map rowI z))]) := fun s l => by rw [List.getElem?_append_left (by rw [yS_len]; omega), yS_get _ _ (by decide), o3]
  have f5 : ∀ k, (yS σ (some (g, o, l)) ++ k)[5]? = some (.cells [.ms 4 g 1 0 l]) := fun k => by rw [List.getElem?_append_left (by rw [yS_len]; omega), yS_5 _ (by omega)]; rfl
  have f4 : ∀ k, (yS σ (some (g, o, l)) ++ k)[4]? = some (.arr g 1 (List.map (rowA (rowL 3 row_repair_holes)) o)) := fun k => by rw [List.getElem?_append_left (by rw [yS_len]; omega), yS_4 _ (by omega)]; rfl
  have f45 : ∀ k X, ((yS σ (some (g, o, l)) ++ k).set 4 X)[5]? = some (.cells [.ms 4 g 1 0 l]) := fun k X => by rw [List.getElem?_set_ne (by decide)]; exact f5 k
  have hp : ∀ k v m, ((yS σ (some (g, o, l)) ++ k).set 4 (.arr (g + 1) 1 (List.map (rowA (rowL 3 row_repair_holes)) v))).set 5 (.cells [.ms 4 (g + 1) 1 0 m]) = yS σ (some ((g + 1), v, m)) ++ k := fun k v m => by rw [List.set_append_left _ _ (by rw [yS_len]; omega), List.set_append_left _ _ (by rw [List.length_set, yS_len]; omega)]; exact congrArg (· ++ k) (yS_set σ _ (some ((g + 1), v, m)))
  have g0 : ∀ s l, (yS σ s ++ l)[σ.length]? = l[0]? := fun s l => sA0 (yS_len σ s)
  have gk : ∀ s l k, (yS σ s ++ l)[σ.length + k]? = l[k]? := fun s l k => sAK (yS_len σ s)
  have s0 : ∀ s l y, (yS σ s ++ l).set σ.length y = yS σ s ++ l.set 0 y := fun s l y => sS0 (yS_len σ s)
  have sk : ∀ s l y k, (yS σ s ++ l).set (σ.length + k) y = yS σ s ++ l.set k y := fun s l y k => sSK (yS_len σ s)
  have t0 : ∀ s l, (yS σ s ++ l).take σ.length = yS σ s := fun s l => sT0 (yS_len σ s)
  have tk : ∀ s l k, (yS σ s ++ l).take (σ.length + k) = yS σ s ++ l.take k := fun s l k => sTK (yS_len σ s)
  have tx : ∀ s, (yS σ s).take σ.length = yS σ s := fun s => sTX (yS_len σ s)
  have lt : ∀ k, 1 < σ.length + k ∧ 3 < σ.length + k ∧ 4 < σ.length + k ∧ 5 < σ.length + k := fun k => by omega
  have lE : ∀ t k, ltV (σ.length + k) (get E t) = true := fun t k => ltV_mono (by omega) _ (hEl t)
  have lE0 : ∀ t, ltV σ.length (get E t) = true := fun t => ltV_mono (by omega) _ (hEl t)
  conv => arg 1; arg 7; unfold B13_0 rangeB S22.c13 Try.f13; simp only [rangeIn, Option.getD_some, if_true]
  obtain ⟨v1, e_v1, h⟩ := ob h
  obtain ⟨e_v11, e_v12, e_v13, e_v14⟩ := mkz_some e_v1
  have e_v1b : boundOk (a.States).toNat 40 = true := bnd_of e_v13 (by decide)
  have e_v1r : List.replicate (a.States).toNat [AV.p (bv false), AV.p (iv 0), AV.p (.sl none 1 [])] = List.map (rowA row_repair_holes) v1 := by rw [e_v14]; exact rep_map (by first | rfl | simp only [go_sem, List.map_nil])
  simp only [go_sem, e_v11, e_v12, e_v1b, e_v1r, hE4, hE10, hE8, yl, b1, b3, f5, f4, f45, hp, g0, gk, s0, sk, t0, tk, tx, lt, lE, lE0]
  refine run_rangeI (c := L13_2) (live := [4, 8, 10, 12, 13, 14, 57, 58]) (by simp only [go_sem]) (M := fun i1 (s1 : (List repair_holes)) => [(4, .ptr 1 0), (8, .ptr 3 0), (10, .ptr 5 0), (12, .ptr σ.length 0), (13, .p (iv (w64 ((l : Int) - (u.Kids.length : Int))))), (14, .ms (σ.length + 1) 0 3 0 ((a.States).toNat)), (57, .p (iv ((a.States).toNat : Int))), (58, .p (iv (i1 : Int)))]) (Z := fun i1 (s1 : (List repair_holes)) => ((yS σ (some (g, o, l))) ++ [.cells [.p (iv u.Sym), .p (.sl none 2 (List.map row_Tree u.Kids))], .arr 0 3 (List.map (rowA row_repair_holes) s1)])) (N := fun (s1 : (List repair_holes)) => ⟨[(4, .ptr 1 0), (8, .ptr 3 0), (10, .ptr 5 0), (12, .ptr σ.length 0), (13, .p (iv (w64 ((l : Int) - (u.Kids.length : Int))))), (14, .ms (σ.length + 1) 0 3 0 ((a.States).toNat))], ((yS σ (some (g, o, l))) ++ [.cells [.p (iv u.Sym), .p (.sl none 2 (List.map row_Tree u.Kids))], .arr 0 3 (List.map (rowA row_repair_holes) s1)]), [], none, false⟩) h (by first | rfl | (simp only [go_sem, hE4, hE10, hE8, yl, b1, b3, f5, f4, f45, hp, g0, gk, s0, sk, t0, tk, tx, lt, lE, lE0]; done) | (simp only [go_sem, hE4, hE10, hE8, yl, b1, b3, f5, f4, f45, hp, g0, gk, s0, sk, t0, tk, tx, lt, lE, lE0]; rfl)) (by first | rfl | (simp only [go_sem, hE4, hE10, hE8, yl, b1, b3, f5, f4, f45, hp, g0, gk, s0, sk, t0, tk, tx, lt, lE, lE0]; done) | (simp only [go_sem, hE4, hE10, hE8, yl, b1, b3, f5, f4, f45, hp, g0, gk, s0, sk, t0, tk, tx, lt, lE, lE0]; rfl)) (fun _ _ => rfl) ?_ ?_ ?_
  · intro s1 h
    try dsimp only at h ⊢
    simp only [go_sem, hE4, hE10, hE8, yl, b1, b3, f5, f4, f45, hp, g0, gk, s0, sk, t0, tk, tx, lt, lE, lE0]
    refine run_rangeL (c := L13_4) (live := [4, 8, 10, 12, 13, 14, 76, 77, 78]) (by simp only [go_sem]) (M := fun i2 (s2 : (List repair_holes)) => [(4, .ptr 1 0), (8, .ptr 3 0), (10, .ptr 5 0), (12, .ptr σ.length 0), (13, .p (iv (w64 ((l : Int) - (u.Kids.length : Int))))), (14, .ms (σ.length + 1) 0 3 0 ((a.States).toNat)), (76, .p (.sl none 3 (List.map row_Rule a.Rules))), (77, .p (iv (a.Rules.length : Int))), (78, .p (iv (i2 : Int)))]) (Z := fun i2 (s2 : (List repair_holes)) => ((yS σ (some (g, o, l))) ++ [.cells [.p (iv u.Sym), .p (.sl none 2 (List.map row_Tree u.Kids))], .arr 0 3 (List.map (rowA row_repair_holes) s2)])) (N := fun (s2 : (List repair_holes)) => ⟨[(4, .ptr 1 0), (8, .ptr 3 0), (10, .ptr 5 0), (13, .p (iv (w64 ((l : Int) - (u.Kids.length : Int))))), (14, .ms (σ.length + 1) 0 3 0 ((a.States).toNat))], ((yS σ (some (g, o, l))) ++ [.cells [.p (iv u.Sym), .p (.sl none 2 (List.map row_Tree u.Kids))], .arr 0 3 (List.map (rowA row_repair_holes) s2)]), [], none, false⟩) h (by first | rfl | (simp only [go_sem, hE4, hE10, hE8, yl, b1, b3, f5, f4, f45, hp, g0, gk, s0, sk, t0, tk, tx, lt, lE, lE0]; done) | (simp only [go_sem, hE4, hE10, hE8, yl, b1, b3, f5, f4, f45, hp, g0, gk, s0, sk, t0, tk, tx, lt, lE, lE0]; rfl)) (by first | rfl | (simp only [go_sem, hE4, hE10, hE8, yl, b1, b3, f5, f4, f45, hp, g0, gk, s0, sk, t0, tk, tx, lt, lE, lE0]; done) | (simp only [go_sem, hE4, hE10, hE8, yl, b1, b3, f5, f4, f45, hp, g0, gk, s0, sk, t0, tk, tx, lt, lE, lE0]; rfl)) (fun _ _ => rfl) ?_ ?_ ?_
    · intro s2 h
      try dsimp only at h ⊢
      obtain ⟨v2, e_v2, h⟩ := ob h
      obtain ⟨e_v2a, e_v2b, e_v2d⟩ := cutM_some e_v2
      obtain ⟨v3, e_v3, h⟩ := ob h
      have e_v3a := (allM_some e_v3).1
      have e_v3b := (allM_some e_v3).2
      try simp only [Nat.zero_add] at e_v3a
      try simp only [List.drop_zero] at e_v3b
      obtain ⟨v4, e_v4, h⟩ := ob h
      have e_v4a := (appM_some e_v4).1
      have e_v4b : boundOk (v2 + 1) 24 = true := bnd_of (by have := (appM_some e_v4).2.1; simpa using this) (by decide)
      have e_v4c : List.map (rowA (rowL 3 row_repair_holes)) (List.take v2 o) ++ [[AV.p (.sl none 3 (List.map row_repair_holes v3))]] = List.map (rowA (rowL 3 row_repair_holes)) v4 := by rw [← (appM_some e_v4).2.2]; simp [rowA, rowL, row_repair_holes_eq]
      simp only [go_sem, e_v2a, e_v2b, e_v2d, e_v3a, e_v3b, e_v4b, e_v4a, e_v4c, hE4, hE10, hE8, yl, b1, b3, f5, f4, f45, hp, g0, gk, s0, sk, t0, tk, tx, lt, lE, lE0]
      injection h with h; subst h
      exact hK _ _
    · intro K2 s2 hb2 he2
      try dsimp only
      conv => arg 1; arg 7; unfold L13_4 loopAt S22.c13 Try.f13; simp only [loopIn, Option.getD_some, if_true]
      simp only [go_sem, he2, hE4, hE10, hE8, yl, b1, b3, f5, f4, f45, hp, g0, gk, s0, sk, t0, tk, tx, lt, lE, lE0]
      exact hb2
    · intro K2 k2 i2 x2 s2 n2 hR2 hE2 hb2 hx2 hi2 hw2 ih2 h
      try dsimp only at h ⊢
      conv => arg 1; arg 7; unfold L13_4 loopAt S22.c13 Try.f13; simp only [loopIn, Option.getD_some, if_true]
      obtain ⟨v5, e_v5, h⟩ := ob h
      obtain ⟨e_v5a, e_v5b, e_v5d⟩ := cutM_some e_v5
      obtain ⟨v6, e_v6, h⟩ := ob h
      have e_v6c : call Try.prog T H (.fn 39) [.p (.agg [iv x2.Sym, .sl none 1 (List.map rowI x2.From), iv x2.To]), .p (.agg [iv u.Sym, .sl none 2 (List.map row_Tree u.Kids)]), .ms 0 g 1 v5 (l - v5)] [.arr g 1 (List.map (rowA (rowL 3 row_repair_holes)) o)] = some (.ret (.p (.tup [.agg [bv v6.1.ok, iv v6.1.gone, .sl none 1 (List.map (rowL 1 rowI) v6.1.list)], bv v6.2])), [.arr g 1 (List.map (rowA (rowL 3 row_repair_holes)) o)]) := spec39_xxq g x2 u o (l - v5) v5 v6 e_v6
      by_cases c1 : v6.2 = true
      · have h := iteT h c1
        obtain ⟨v7, e_v7, h⟩ := ob h
        obtain ⟨e_v7a, e_v7b, e_v7d⟩ := idxM_some e_v7
        obtain ⟨v8, e_v8, h⟩ := ob h
        have e_v8c : call Try.prog T H (.fn 40) [.p (.agg [bv v6.1.ok, iv v6.1.gone, .sl none 1 (List.map (rowL 1 rowI) v6.1.list)]), .p (.agg [bv v7.ok, iv v7.gone, .sl none 1 (List.map (rowL 1 rowI) v7.list)])] [] = some (.ret (.p (bv v8)), []) := spec40 v6.1 v7 v8 e_v8
        by_cases c2 : v8 = true
        · have h := iteT h c2
          have e_y1 : List.set (List.map (rowA row_repair_holes) s2) ((x2.To).toNat) [.p (bv v6.1.ok), .p (iv v6.1.gone), .p (.sl none 1 (List.map (rowL 1 rowI) v6.1.list))] = List.map (rowA row_repair_holes) (List.set s2 ((x2.To).toNat) v6.1) := map_set' (by first | rfl | simp only [go_sem, List.map_cons, List.map_nil])
          simp only [go_sem, hx2, hi2, hw2, e_v5a, e_v5b, e_v5d, e_v6c, c1, e_v7a, e_v7b, e_v7d, e_v8c, c2, e_y1, hR2, hE2, hE4, hE10, hE8, yl, b1, b3, f5, f4, f45, hp, g0, gk, s0, sk, t0, tk, tx, lt, lE, lE0]
          exact ih2 (List.set s2 ((x2.To).toNat) v6.1) h
        · have h := iteF h c2
          have c2 := eq_false_of_ne_true c2
          simp only [go_sem, hx2, hi2, hw2, e_v5a, e_v5b, e_v5d, e_v6c, c1, e_v7a, e_v7b, e_v7d, e_v8c, c2, hR2, hE2, hE4, hE10, hE8, yl, b1, b3, f5, f4, f45, hp, g0, gk, s0, sk, t0, tk, tx, lt, lE, lE0]
          exact ih2 s2 h
      · have h := iteF h c1
        have c1 := eq_false_of_ne_true c1
        simp only [go_sem, hx2, hi2, hw2, e_v5a, e_v5b, e_v5d, e_v6c, c1, hR2, hE2, hE4, hE10, hE8, yl, b1, b3, f5, f4, f45, hp, g0, gk, s0, sk, t0, tk, tx, lt, lE, lE0]
        exact ih2 s2 h
  · intro K1 i1 s1 hb1 he1
    try dsimp only
    conv => arg 1; arg 7; unfold L13_2 loopAt S22.c13 Try.f13; simp only [loopIn, Option.getD_some, if_true]
    simp only [go_sem, he1, hE4, hE10, hE8, yl, b1, b3, f5, f4, f45, hp, g0, gk, s0, sk, t0, tk, tx, lt, lE, lE0]
    exact hb1
  · intro K1 k1 i1 s1 n1 hR1 hE1 hb1 hi1 hw1 ih1 h
    try dsimp only at h ⊢
    conv => arg 1; arg 7; unfold L13_2 loopAt S22.c13 Try.f13; simp only [loopIn, Option.getD_some, if_true]
    obtain ⟨v9, e_v9, h⟩ := ob h
    obtain ⟨v10, e_v10, h⟩ := ob h
    have e_v10c : call Try.prog T H (.fn 38) [.p (.agg [iv u.Sym, .sl none 2 (List.map row_Tree u.Kids)])] [] = some (.ret (.p (iv v10)), []) := spec38 n u v10 e_v10
    obtain ⟨v11, e_v11, h⟩ := ob h
    obtain ⟨e_v11a, e_v11b, e_v11d⟩ := idxM_some e_v11
    simp only [Int.toNat_natCast] at e_v11b
    simp only [Int.toNat_natCast] at e_v11d
    have e_y2 : List.set (List.map (rowA row_repair_holes) s1) i1 [.p (bv (decide (0 < v9))), .p (iv v10), .p (.sl none 1 [[.sl none 1 []]])] = List.map (rowA row_repair_holes) (List.set s1 i1 (repair_holes.mk (decide (0 < v9)) v10 [([] : List Int)])) := map_set' (by first | rfl | simp only [go_sem, List.map_cons, List.map_nil])
    simp only [go_sem, hi1, hw1, e_v9, e_v10c, e_v11b, e_v11d, e_y2, hR1, hE1, hE4, hE10, hE8, yl, b1, b3, f5, f4, f45, hp, g0, gk, s0, sk, t0, tk, tx, lt, lE, lE0]
    exact ih1 (List.set s1 i1 (repair_holes.mk (decide (0 < v9)) v10 [([] : List Int)])) h
end Hol
end Go.AM.S22

namespace Go.AM.S22
set_option maxRecDepth 100000
set_option maxHeartbeats 4000000
set_option linter.unusedVariables false
namespace Hol
open Go Go.Proofs Go.AM
def stp (n : Nat) (a : Automaton) (z : List Int) (u : Tree) : PS → Option PS
  | none => (holRow0 n a z u).bind fun r => some (some (1, r.1, r.2))
  | some (g, o, l) => (holRow n a z u o l).bind fun r => some (some (g + 1, r.1, r.2))
structure WF (E : Env) (a : Automaton) (z : List Int) (σ : List AObj) : Prop where
  len : 11 ≤ σ.length
  o1 : σ[1]? = some (.cells [.p (iv a.States), .p (.sl none 1 (List.map rowI a.Final)), .p (.sl none 3 (List.map row_Rule a.Rules))])
  o3 : σ[3]? = some (.cells [.p (.sl none 1 (List.map rowI z))])
  o7 : σ[7]? = some (.loop 0 none 140 13 E [45, 46] A13_0 B13_0)
  o8 : σ[8]? = some (.cells [.yld 7])
  o10 : σ[10]? = some (.cells [.fn 65 [.ptr 10 0, .ptr 9 0, .ptr 8 0]])
def wS (σ : List AObj) (s : PS × Int) : List AObj := yS (σ.set 9 (.cells [.p (iv s.2)])) s.1
theorem wS_len (σ : List AObj) (s : PS × Int) : (wS σ s).length = σ.length := by unfold wS; rw [yS_len, List.length_set]
theorem wS_get (σ : List AObj) (s : PS × Int) {i : Nat} (h : i ≠ 4 ∧ i ≠ 5 ∧ i ≠ 9) : (wS σ s)[i]? = σ[i]? := by
  unfold wS; rw [yS_get _ _ ⟨h.1, h.2.1⟩, List.getElem?_set_ne (by omega)]
theorem wS_9 {σ : List AObj} (s : PS × Int) (h : 11 ≤ σ.length) : (wS σ s)[9]? = some (.cells [.p (iv s.2)]) := by
  unfold wS; rw [yS_get _ _ (by decide), List.getElem?_set_self (by omega)]
theorem wS_set9 (σ : List AObj) (s : PS × Int) (m : Int) : (wS σ s).set 9 (.cells [.p (iv m)]) = wS σ (s.1, m) := by
  unfold wS yS
  simp only []
  rw [List.set_comm _ _ (by decide : 5 ≠ 9), List.set_comm _ _ (by decide : 4 ≠ 9), List.set_set]
theorem wS_app {σ : List AObj} (s : PS × Int) (h : 11 ≤ σ.length) (l : List AObj) : wS σ s ++ l = wS (σ ++ l) s := by
  unfold wS
  rw [yS_app _ (by simp; omega), List.set_append_left _ _ (by omega)]
theorem WF.app {E : Env} {a : Automaton} {z : List Int} {σ : List AObj} (h : WF E a z σ) (l : List AObj) : WF E a z (σ ++ l) where
  len := by rw [List.length_append]; have := h.len; omega
  o1 := by rw [List.getElem?_append_left (by have := h.len; omega)]; exact h.o1
  o3 := by rw [List.getElem?_append_left (by have := h.len; omega)]; exact h.o3
  o7 := by rw [List.getElem?_append_left (by have := h.len; omega)]; exact h.o7
  o8 := by rw [List.getElem?_append_left (by have := h.len; omega)]; exact h.o8
  o10 := by rw [List.getElem?_append_left (by have := h.len; omega)]; exact h.o10
theorem set_back {α : Type} {l : List α} {i : Nat} {a : α} (h : l[i]? = some a) : l.set i a = l := by
  apply List.ext_getElem?
  intro j
  by_cases e : i = j
  · subst e
    have := (List.getElem?_eq_some_iff.mp h).1
    rw [List.getElem?_set_self this, h]
  · rw [List.getElem?_set_ne e]
theorem yld_spec {E : Env} (hE4 : get E 4 = .ptr 1 0) (hE10 : get E 10 = .ptr 5 0) (hE8 : get E 8 = .ptr 3 0) (hEl : ∀ t, ltV 7 (get E t) = true) (n : Nat) (a : Automaton) (z : List Int) {σ : List AObj} (w : WF E a z σ) (u : Tree) (s : PS × Int) (p : PS) (h : stp n a z u s.1 = some p) (i : Int) (l : List AObj) :
    call Try.prog T H (.yld 7) [.p (iv i), .p (.agg [iv u.Sym, .sl none 2 (List.map row_Tree u.Kids)])] (wS σ s ++ l) = some (.ret (.p (bv true)), wS σ (p, s.2) ++ l) := by
  refine Sat.fn fun Q hQ => ?_
  have hl := w.len
  have e1 : ∀ q : PS, wS σ (q, s.2) ++ l = yS (σ.set 9 (.cells [.p (iv s.2)]) ++ l) q := fun q => by unfold wS; rw [yS_app _ (by simp; omega)]
  have e1s : wS σ s ++ l = yS (σ.set 9 (.cells [.p (iv s.2)]) ++ l) s.1 := e1 s.1
  rw [e1s]
  rw [e1 p] at hQ
  have r7 : (σ.set 9 (.cells [.p (iv s.2)]) ++ l)[7]? = some (.loop 0 none 140 13 E [45, 46] A13_0 B13_0) := by rw [List.getElem?_append_left (by simp; omega), List.getElem?_set_ne (by decide)]; exact w.o7
  have r1 : (σ.set 9 (.cells [.p (iv s.2)]) ++ l)[1]? = some (.cells [.p (iv a.States), .p (.sl none 1 (List.map rowI a.Final)), .p (.sl none 3 (List.map row_Rule a.Rules))]) := by rw [List.getElem?_append_left (by simp; omega), List.getElem?_set_ne (by decide)]; exact w.o1
  have r3 : (σ.set 9 (.cells [.p (iv s.2)]) ++ l)[3]? = some (.cells [.p (.sl none 1 (List.map rowI z))]) := by rw [List.getElem?_append_left (by simp; omega), List.getElem?_set_ne (by decide)]; exact w.o3
  have rl : 8 ≤ (σ.set 9 (.cells [.p (iv s.2)]) ++ l).length := by simp; omega
  generalize σ.set 9 (.cells [.p (iv s.2)]) ++ l = ρ at r7 r1 r3 rl hQ ⊢
  have y7 : ∀ q, (yS ρ q)[7]? = some (.loop 0 none 140 13 E [45, 46] A13_0 B13_0) := fun q => by rw [yS_get _ _ (by decide)]; exact r7
  have a7 : ∀ q k, (yS ρ q ++ k)[7]? = some (.loop 0 none 140 13 E [45, 46] A13_0 B13_0) := fun q k => by rw [List.getElem?_append_left (by rw [yS_len]; omega)]; exact y7 q
  have s7 : ∀ q k, (yS ρ q ++ k).set 7 (.loop 1 none 140 13 E [45, 46] A13_0 B13_0) = yS (ρ.set 7 (.loop 1 none 140 13 E [45, 46] A13_0 B13_0)) q ++ k := fun q k => by
    rw [List.set_append_left _ _ (by rw [yS_len]; omega)]
    unfold yS
    rw [List.set_comm _ _ (by decide : 5 ≠ 7), List.set_comm _ _ (by decide : 4 ≠ 7)]
  have b7 : ∀ q k, (yS (ρ.set 7 (.loop 1 none 140 13 E [45, 46] A13_0 B13_0)) q ++ k)[7]? = some (.loop 1 none 140 13 E [45, 46] A13_0 B13_0) := fun q k => by
    rw [List.getElem?_append_left (by rw [yS_len, List.length_set]; omega), yS_get _ _ (by decide), List.getElem?_set_self (by omega)]
  have c7 : ∀ q k, (yS (ρ.set 7 (.loop 1 none 140 13 E [45, 46] A13_0 B13_0)) q ++ k).set 7 (.loop 0 none 140 13 E [45, 46] A13_0 B13_0) = yS ρ q ++ k := fun q k => by
    rw [List.set_append_left _ _ (by rw [yS_len, List.length_set]; omega)]
    unfold yS
    rw [List.set_comm _ _ (by decide : 5 ≠ 7), List.set_comm _ _ (by decide : 4 ≠ 7), List.set_set, set_back r7]
  have t7 : ∀ q k, (yS ρ q ++ k).take ρ.length = yS ρ q := fun q k => by
    rw [← yS_len ρ q, List.take_left']; rfl
  have g0 : ∀ s l, (yS ρ s ++ l)[ρ.length]? = l[0]? := fun s l => sA0 (yS_len ρ s)
  have s0 : ∀ s l y, (yS ρ s ++ l).set ρ.length y = yS ρ s ++ l.set 0 y := fun s l y => sS0 (yS_len ρ s)
  rw [call_yld (h := y7 s.1) (hok := yo13_0) (hl := rfl)]
  conv => arg 1; arg 7; unfold A13_0 rangeA S22.c13 Try.f13; simp only [rangeIn, Option.getD_some, if_true]
  simp only [go_sem, asgK, setSt, Option.getD_none, yS_len, g0, s0, a7, s7]
  have lens : (ρ.set 7 (.loop 1 none 140 13 E [45, 46] A13_0 B13_0)).length = ρ.length := List.length_set ..
  have fin : ∀ (q : PS) (env : Env) (loc : List AObj), p = q → Sat (yldK 7 ρ.length (.normal, ⟨env, yS (ρ.set 7 (.loop 1 none 140 13 E [45, 46] A13_0 B13_0)) q ++ loc, [], none, false⟩)) Q := fun q env loc e => by
    subst e
    rw [yldK_normal 7 ρ.length _ (setSt_eq (b7 p loc))]
    simp only [Option.getD_some, c7, t7]
    exact Sat.ok hQ
  rcases hs : s.1 with _ | ⟨g, o, m⟩
  · rw [hs] at h
    obtain ⟨r, e_r, h⟩ := ob h
    injection h with h
    have q := holRow0_spec hE4 hE10 hE8 hEl (σ := ρ.set 7 (.loop 1 none 140 13 E [45, 46] A13_0 B13_0)) (by rw [lens]; exact rl) n a z u (by rw [List.getElem?_set_ne (by decide)]; exact r1) (by rw [List.getElem?_set_ne (by decide)]; exact r3) r e_r i (yldK 7 ρ.length) Q (fun env loc => fin _ env loc h.symm)
    rw [lens] at q
    exact q
  · rw [hs] at h
    obtain ⟨r, e_r, h⟩ := ob h
    injection h with h
    have q := holRow_spec hE4 hE10 hE8 hEl (σ := ρ.set 7 (.loop 1 none 140 13 E [45, 46] A13_0 B13_0)) (by rw [lens]; exact rl) n a z u g o m (by rw [List.getElem?_set_ne (by decide)]; exact r1) (by rw [List.getElem?_set_ne (by decide)]; exact r3) r e_r i (yldK 7 ρ.length) Q (fun env loc => fin _ env loc h.symm)
    rw [lens] at q
    exact q
def walk (n : Nat) (a : Automaton) (z : List Int) : Nat → Tree → PS × Int → Option (PS × Int)
  | 0, _, _ => none
  | k + 1, t, s =>
    rangeL t.Kids s (fun _ _ x1 s1 n1 => (walk n a z k x1 s1).bind fun v => n1 v) fun s1 =>
    (stp n a z t s1.1).bind fun p => some (p, w64 (s1.2 + 1))
theorem spec65 {E : Env} (hE4 : get E 4 = .ptr 1 0) (hE10 : get E 10 = .ptr 5 0) (hE8 : get E 8 = .ptr 3 0) (hEl : ∀ t, ltV 7 (get E t) = true) (n : Nat) (a : Automaton) (z : List Int) : ∀ (k : Nat) (σ : List AObj) (w : WF E a z σ) (t : Tree) (s r : PS × Int), walk n a z k t s = some r →
    call Try.prog T H (.fn 65) [.p (.agg [iv t.Sym, .sl none 2 (List.map row_Tree t.Kids)]), .ptr 10 0, .ptr 9 0, .ptr 8 0] (wS σ s) = some (.ret (.p (bv true)), wS σ r) := by
  intro k
  induction k with
  | zero => intro σ w t s r h; cases h
  | succ k ih =>
    intro σ w t s r h
    refine Sat.fn fun Q hQ => ?_
    rw [walk] at h
    have hl := w.len
    have b9n : ∀ s, (wS σ s)[9]? = some (.cells [.p (iv s.2)]) := fun s => wS_9 _ hl
    have b9 : ∀ s l, (wS σ s ++ l)[9]? = some (.cells [.p (iv s.2)]) := fun s l => by rw [List.getElem?_append_left (by rw [wS_len]; omega), wS_9 _ hl]
    have b8 : ∀ s l, (wS σ s ++ l)[8]? = some (.cells [.yld 7]) := fun s l => by rw [List.getElem?_append_left (by rw [wS_len]; omega), wS_get _ _ (by decide), w.o8]
    have b10 : ∀ s l, (wS σ s ++ l)[10]? = some (.cells [.fn 65 [.ptr 10 0, .ptr 9 0, .ptr 8 0]]) := fun s l => by rw [List.getElem?_append_left (by rw [wS_len]; omega), wS_get _ _ (by decide), w.o10]
    have bs9 : ∀ s l m, (wS σ s ++ l).set 9 (.cells [.p (iv m)]) = wS σ (s.1, m) ++ l := fun s l m => by rw [List.set_append_left _ _ (by rw [wS_len]; omega), wS_set9]
    have g0 : ∀ s l, (wS σ s ++ l)[σ.length]? = l[0]? := fun s l => sA0 (wS_len σ s)
    have gk : ∀ s l k, (wS σ s ++ l)[σ.length + k]? = l[k]? := fun s l k => sAK (wS_len σ s)
    have s0 : ∀ s l y, (wS σ s ++ l).set σ.length y = wS σ s ++ l.set 0 y := fun s l y => sS0 (wS_len σ s)
    have sk : ∀ s l y k, (wS σ s ++ l).set (σ.length + k) y = wS σ s ++ l.set k y := fun s l y k => sSK (wS_len σ s)
    have t0 : ∀ s l, (wS σ s ++ l).take σ.length = wS σ s := fun s l => sT0 (wS_len σ s)
    have tk : ∀ s l k, (wS σ s ++ l).take (σ.length + k) = wS σ s ++ l.take k := fun s l k => sTK (wS_len σ s)
    have tx : ∀ s, (wS σ s).take σ.length = wS σ s := fun s => sTX (wS_len σ s)
    have l10 : ∀ k, 10 < σ.length + k ∧ 9 < σ.length + k ∧ 8 < σ.length + k := fun k => by omega
    rw [call65]
    conv => arg 1; arg 7; unfold S22.c65 Try.f65; simp only [Option.getD_some]
    simp only [go_sem, wS_len, b9, b9n, b8, b10, bs9, g0, gk, s0, sk, t0, tk, tx]
    refine run_rangeL (c := L65_0) (live := [1, 2, 3, 4, 9, 10, 11]) (by simp only [go_sem]) (M := fun i1 (s1 : PS × Int) => [(1, .ptr 10 0), (2, .ptr 9 0), (3, .ptr 8 0), (4, .ptr σ.length 0), (9, .p (.sl none 2 (List.map row_Tree t.Kids))), (10, .p (iv (t.Kids.length : Int))), (11, .p (iv (i1 : Int)))]) (Z := fun i1 s1 => wS σ s1 ++ [.cells [.p (iv t.Sym), .p (.sl none 2 (List.map row_Tree t.Kids))]]) (N := fun s1 => ⟨[(2, .ptr 9 0), (3, .ptr 8 0), (4, .ptr σ.length 0)], wS σ s1 ++ [.cells [.p (iv t.Sym), .p (.sl none 2 (List.map row_Tree t.Kids))]], [], none, false⟩) h rfl rfl (fun _ _ => rfl) ?_ ?_ ?_
    · intro s1 h
      try dsimp only at h ⊢
      obtain ⟨p, e_p, h⟩ := ob h
      injection h with h; subst h
      have yy : ∀ i l, call Try.prog T H (.yld 7) [.p (iv i), .p (.agg [iv t.Sym, .sl none 2 (List.map row_Tree t.Kids)])] (wS σ (s1.1, w64 (s1.2 + 1)) ++ l) = some (.ret (.p (bv true)), wS σ (p, w64 (s1.2 + 1)) ++ l) := fun i l => yld_spec hE4 hE10 hE8 hEl n a z w t (s1.1, w64 (s1.2 + 1)) p e_p i l
      simp only [go_sem, wS_len, b9, b9n, b8, b10, bs9, g0, gk, s0, sk, t0, tk, tx, yy]
      exact Sat.ok hQ
    · intro K1 s1 hb1 he1
      try dsimp only
      conv => arg 1; arg 7; unfold L65_0 loopAt S22.c65 Try.f65; simp only [loopIn, Option.getD_some, if_true]
      simp only [go_sem, he1, wS_len, b9, b9n, b8, b10, bs9, g0, gk, s0, sk, t0, tk, tx, l10]
      exact hb1
    · intro K1 k1 i1 x1 s1 n1 hR1 hE1 hb1 hx1 hi1 hw1 ih1 h
      try dsimp only at h ⊢
      conv => arg 1; arg 7; unfold L65_0 loopAt S22.c65 Try.f65; simp only [loopIn, Option.getD_some, if_true]
      obtain ⟨v2, e_v2, h⟩ := ob h
      have e_v2c : ∀ l, call Try.prog T H (.fn 65) [.p (.agg [iv x1.Sym, .sl none 2 (List.map row_Tree x1.Kids)]), .ptr 10 0, .ptr 9 0, .ptr 8 0] (wS σ s1 ++ l) = some (.ret (.p (bv true)), wS σ v2 ++ l) := fun l => by
        have q := ih (σ ++ l) (w.app l) x1 s1 v2 e_v2
        rw [← wS_app _ hl, ← wS_app _ hl] at q
        exact q
      simp only [go_sem, hx1, hi1, hw1, e_v2c, hR1, hE1, wS_len, b9, b9n, b8, b10, bs9, g0, gk, s0, sk, t0, tk, tx, l10]
      exact ih1 v2 h
end Hol
end Go.AM.S22

namespace Go.AM.S22
open Go Go.Proofs Go.AM
set_option maxRecDepth 100000
set_option linter.unusedVariables false
set_option maxHeartbeats 4000000


def repair_Relabel (n : Nat) (a0 : Alphabet) (a1 : Automaton) (a2 : Tree) : Option (Int × Tree × Int) :=
  (auto_Valid a0 a1).bind fun v1 =>
  if v1 = true then
    (tree_Valid n a0 a2).bind fun v2 =>
    if v2 = true then
      (Rel.walk n a1 n a2 (none, 0)).bind fun v =>
      (v.1).bind fun w =>
      rangeL a1.Final ((-1), 0, ([] : List Tree)) (fun k1 i1 x1 (s1 : Int × Int × (List Tree)) n1 =>
        (idxM w.2.2 w.2.1 0).bind fun v4 =>
        (idx v4 x1).bind fun v5 =>
        if 0 ≤ v5.many then
          (repair_before n v5 (repair_labeled.mk s1.1 (Tree.mk s1.2.1 s1.2.2))).bind fun v6 =>
          if v6 = true then
            n1 (v5.many, v5.tree.Sym, v5.tree.Kids)
          else
            n1 (s1.1, s1.2.1, s1.2.2)
        else
          n1 (s1.1, s1.2.1, s1.2.2)) fun s1 =>
      if s1.1 < 0 then
        some (0, (Tree.mk 0 ([] : List Tree)), 5)
      else
        (repair_copied n (Tree.mk s1.2.1 s1.2.2)).bind fun v3 =>
        some (s1.1, v3, 0)
    else
      some (0, (Tree.mk 0 ([] : List Tree)), 1)
  else
    some (0, (Tree.mk 0 ([] : List Tree)), 1)
theorem spec10 (n : Nat) (a0 : Alphabet) (a1 : Automaton) (a2 : Tree) (r : Int × Tree × Int) (h : repair_Relabel n a0 a1 a2 = some r) :
    call Try.prog T H (.fn 10) [.p (.agg [.sl none 1 (List.map rowI a0.Ranks)]), .p (.agg [iv a1.States, .sl none 1 (List.map rowI a1.Final), .sl none 3 (List.map row_Rule a1.Rules)]), .p (.agg [iv a2.Sym, .sl none 2 (List.map row_Tree a2.Kids)])] [] = some (.ret (.p (.tup [iv r.1, .agg [iv r.2.1.Sym, .sl none 2 (List.map row_Tree r.2.1.Kids)], iv r.2.2])), []) := by
  refine Sat.fn fun Q hQ => ?_
  unfold repair_Relabel at h
  rw [call10, cf10]
  conv => arg 1; arg 7; unfold S22.c10 Try.f10; simp only [Option.getD_some, foldR, if_true]
  obtain ⟨v1, e_v1, h⟩ := ob h
  have e_v1c : call Try.prog T H (.fn 28) [.p (.agg [.sl none 1 (List.map rowI a0.Ranks)]), .p (.agg [iv a1.States, .sl none 1 (List.map rowI a1.Final), .sl none 3 (List.map row_Rule a1.Rules)])] [] = some (.ret (.p (bv v1)), []) := spec28 a0 a1 v1 e_v1
  by_cases c1 : v1 = true
  · have h := iteT h c1
    obtain ⟨v2, e_v2, h⟩ := ob h
    have e_v2c : call Try.prog T H (.fn 29) [.p (.agg [.sl none 1 (List.map rowI a0.Ranks)]), .p (.agg [iv a2.Sym, .sl none 2 (List.map row_Tree a2.Kids)])] [] = some (.ret (.p (bv v2)), []) := spec29 n a0 a2 v2 e_v2
    by_cases c2 : v2 = true
    · have h := iteT h c2
      simp only [go_sem, e_v1c, c1, e_v2c, c2]
      refine Sat.callc ?_
      rw [call30]
      conv => arg 1; arg 7; unfold S22.c30 Try.f30; simp only [Option.getD_some]
      simp only [go_sem]
      refine Sat.ok ?_
      obtain ⟨v, e_v, h⟩ := ob h
      obtain ⟨w, e_w, h⟩ := ob h
      simp only [go_sem, e_v1c, c1, e_v2c, c2]
      have q : ∀ E c0 c2 c3 c6, get E 4 = .ptr 1 0 → get E 9 = .ptr 5 0 → ltVis 7 E = true → call Try.prog T H (.fn 65) [.p (.agg [iv a2.Sym, .sl none 2 (List.map row_Tree a2.Kids)]), .ptr 10 0, .ptr 9 0, .ptr 8 0] [c0, .cells [.p (iv a1.States), .p (.sl none 1 (List.map rowI a1.Final)), .p (.sl none 3 (List.map row_Rule a1.Rules))], c2, c3, .dead, .cells [.nms 4 1], c6, .loop 0 none 128 10 E [36, 37] A10_0 B10_0, .cells [.yld 7], .cells [.p (iv 0)], .cells [.fn 65 [.ptr 10 0, .ptr 9 0, .ptr 8 0]]] = some (.ret (.p (bv true)), [c0, .cells [.p (iv a1.States), .p (.sl none 1 (List.map rowI a1.Final)), .p (.sl none 3 (List.map row_Rule a1.Rules))], c2, c3, .arr w.1 1 (List.map (rowA (rowL 3 row_repair_labeled)) w.2.1), .cells [.ms 4 w.1 1 0 w.2.2], c6, .loop 0 none 128 10 E [36, 37] A10_0 B10_0, .cells [.yld 7], .cells [.p (iv v.2)], .cells [.fn 65 [.ptr 10 0, .ptr 9 0, .ptr 8 0]]]) := fun E c0 c2 c3 c6 h4 h9 hE => by
        have q := Rel.spec65 h4 h9 (ltVis_iff.1 hE) n a1 n [c0, .cells [.p (iv a1.States), .p (.sl none 1 (List.map rowI a1.Final)), .p (.sl none 3 (List.map row_Rule a1.Rules))], c2, c3, .dead, .cells [.nms 4 1], c6, .loop 0 none 128 10 E [36, 37] A10_0 B10_0, .cells [.yld 7], .cells [.p (iv 0)], .cells [.fn 65 [.ptr 10 0, .ptr 9 0, .ptr 8 0]]] ⟨by simp, rfl, rfl, rfl, rfl⟩ a2 (none, 0) v e_v
        have e1 : Rel.wS [c0, .cells [.p (iv a1.States), .p (.sl none 1 (List.map rowI a1.Final)), .p (.sl none 3 (List.map row_Rule a1.Rules))], c2, c3, .dead, .cells [.nms 4 1], c6, .loop 0 none 128 10 E [36, 37] A10_0 B10_0, .cells [.yld 7], .cells [.p (iv 0)], .cells [.fn 65 [.ptr 10 0, .ptr 9 0, .ptr 8 0]]] v = [c0, .cells [.p (iv a1.States), .p (.sl none 1 (List.map rowI a1.Final)), .p (.sl none 3 (List.map row_Rule a1.Rules))], c2, c3, .arr w.1 1 (List.map (rowA (rowL 3 row_repair_labeled)) w.2.1), .cells [.ms 4 w.1 1 0 w.2.2], c6, .loop 0 none 128 10 E [36, 37] A10_0 B10_0, .cells [.yld 7], .cells [.p (iv v.2)], .cells [.fn 65 [.ptr 10 0, .ptr 9 0, .ptr 8 0]]] := by unfold Rel.wS Rel.yS; rw [e_w]; rfl
        rw [e1] at q; exact q
      refine Sat.callrange ?_
      rw [call64]
      conv => arg 1; arg 7; unfold S22.c64 Try.f64; simp only [Option.getD_some]
      simp only [go_sem, q, ltVis, List.all_cons, List.all_nil]
      refine Sat.ok ?_
      try simp only [go_sem, rangeK_ok, atLoop_some, pendK_none]
      try simp only [go_sem, e_v1c, c1, e_v2c, c2]
      refine run_rangeL (c := L10_6) (live := [7, 9, 19, 97, 98, 99]) (by simp only [go_sem]) (M := fun i1 (s1 : Int × Int × (List Tree)) => [(7, .ptr 3 0), (9, .ptr 5 0), (19, .ptr 7 0), (97, .p (.sl none 1 (List.map rowI a1.Final))), (98, .p (iv (a1.Final.length : Int))), (99, .p (iv (i1 : Int)))]) (Z := fun i1 (s1 : Int × Int × (List Tree)) => [.cells [.p (.sl none 1 (List.map rowI a0.Ranks))], .cells [.p (iv a1.States), .p (.sl none 1 (List.map rowI a1.Final)), .p (.sl none 3 (List.map row_Rule a1.Rules))], .cells [.p (iv a2.Sym), .p (.sl none 2 (List.map row_Tree a2.Kids))], .cells [.p (iv 0), .own 2 []], .arr w.1 1 (List.map (rowA (rowL 3 row_repair_labeled)) w.2.1), .cells [.ms 4 w.1 1 0 w.2.2], .cells [.p (iv a2.Sym), .p (.sl none 2 (List.map row_Tree a2.Kids))], .cells [.p (iv s1.1), .p (iv s1.2.1), .p (.sl none 2 (List.map row_Tree s1.2.2))]]) (N := fun (s1 : Int × Int × (List Tree)) => ⟨[(7, .ptr 3 0), (19, .ptr 7 0)], [.cells [.p (.sl none 1 (List.map rowI a0.Ranks))], .cells [.p (iv a1.States), .p (.sl none 1 (List.map rowI a1.Final)), .p (.sl none 3 (List.map row_Rule a1.Rules))], .cells [.p (iv a2.Sym), .p (.sl none 2 (List.map row_Tree a2.Kids))], .cells [.p (iv 0), .own 2 []], .arr w.1 1 (List.map (rowA (rowL 3 row_repair_labeled)) w.2.1), .cells [.ms 4 w.1 1 0 w.2.2], .cells [.p (iv a2.Sym), .p (.sl none 2 (List.map row_Tree a2.Kids))], .cells [.p (iv s1.1), .p (iv s1.2.1), .p (.sl none 2 (List.map row_Tree s1.2.2))]], [], none, false⟩) h rfl rfl (fun _ _ => rfl) ?_ ?_ ?_
      · intro s1 h
        try dsimp only at h ⊢
        by_cases c3 : s1.1 < 0
        · have h := iteT h c3
          simp only [go_sem, c3]
          injection h with h; subst h
          exact Sat.ok hQ
        · have h := iteF h c3
          obtain ⟨v3, e_v3, h⟩ := ob h
          have e_v3c : call Try.prog T H (.fn 33) [.p (.agg [iv s1.2.1, .sl none 2 (List.map row_Tree s1.2.2)])] [] = some (.ret (.p (.agg [iv v3.Sym, .sl none 2 (List.map row_Tree v3.Kids)])), []) := spec33 n (Tree.mk s1.2.1 s1.2.2) v3 e_v3
          simp only [go_sem, c3, e_v3c]
          injection h with h; subst h
          exact Sat.ok hQ
      · intro K1 s1 hb1 he1
        try dsimp only
        conv => arg 1; arg 7; unfold L10_6 loopAt S22.c10 Try.f10; simp only [loopIn, Option.getD_some, if_true]
        simp only [go_sem, he1]
        exact hb1
      · intro K1 k1 i1 x1 s1 n1 hR1 hE1 hb1 hx1 hi1 hw1 ih1 h
        try dsimp only at h ⊢
        conv => arg 1; arg 7; unfold L10_6 loopAt S22.c10 Try.f10; simp only [loopIn, Option.getD_some, if_true]
        obtain ⟨v4, e_v4, h⟩ := ob h
        obtain ⟨e_v4a, e_v4b, e_v4d⟩ := idxM_some e_v4
        simp only [Int.reduceToNat] at e_v4b
        simp only [Int.reduceToNat] at e_v4d
        obtain ⟨v5, e_v5, h⟩ := ob h
        obtain ⟨e_v5a, e_v5b⟩ := idx_some e_v5
        by_cases c4 : 0 ≤ v5.many
        · have h := iteT h c4
          obtain ⟨v6, e_v6, h⟩ := ob h
          have e_v6c : call Try.prog T H (.fn 32) [.p (.agg [iv v5.many, iv v5.tree.Sym, .sl none 2 (List.map row_Tree v5.tree.Kids)]), .p (.agg [iv s1.1, iv s1.2.1, .sl none 2 (List.map row_Tree s1.2.2)])] [] = some (.ret (.p (bv v6)), []) := spec32 n v5 (repair_labeled.mk s1.1 (Tree.mk s1.2.1 s1.2.2)) v6 e_v6
          by_cases c5 : v6 = true
          · have h := iteT h c5
            simp only [go_sem, hx1, hi1, hw1, e_v4b, e_v4d, e_v5a, e_v5b, c4, e_v6c, c5, hR1, hE1]
            exact ih1 (v5.many, v5.tree.Sym, v5.tree.Kids) h
          · have h := iteF h c5
            have c5 := eq_false_of_ne_true c5
            simp only [go_sem, hx1, hi1, hw1, e_v4b, e_v4d, e_v5a, e_v5b, c4, e_v6c, c5, hR1, hE1]
            exact ih1 (s1.1, s1.2.1, s1.2.2) h
        · have h := iteF h c4
          simp only [go_sem, hx1, hi1, hw1, e_v4b, e_v4d, e_v5a, e_v5b, c4, hR1, hE1]
          exact ih1 (s1.1, s1.2.1, s1.2.2) h
    · have h := iteF h c2
      have c2 := eq_false_of_ne_true c2
      simp only [go_sem, e_v1c, c1, e_v2c, c2]
      injection h with h; subst h
      exact Sat.ok hQ
  · have h := iteF h c1
    have c1 := eq_false_of_ne_true c1
    simp only [go_sem, e_v1c, c1]
    injection h with h; subst h
    exact Sat.ok hQ

def repair_Holes (n : Nat) (a0 : Alphabet) (a1 : Automaton) (a2 : Tree) : Option ((List (List Int)) × Int) :=
  (auto_Valid a0 a1).bind fun v1 =>
  if v1 = true then
    (tree_Valid n a0 a2).bind fun v2 =>
    if v2 = true then
      (empty_Sizes a0 a1).bind fun v3 =>
      if v3.2 = 0 then
        (Hol.walk n a1 v3.1 n a2 (none, 0)).bind fun v =>
        (v.1).bind fun w =>
        rangeL a1.Final (false, 0, ([] : List (List Int))) (fun k1 i1 x1 (s1 : Bool × Int × (List (List Int))) n1 =>
          (idxM w.2.2 w.2.1 0).bind fun v4 =>
          (idx v4 x1).bind fun v5 =>
          if v5.ok = true then
            (repair_fewer (repair_holes.mk true v5.gone v5.list) (repair_holes.mk s1.1 s1.2.1 s1.2.2)).bind fun v6 =>
            if v6 = true then
              n1 (true, v5.gone, v5.list)
            else
              n1 (s1.1, s1.2.1, s1.2.2)
          else
            n1 (s1.1, s1.2.1, s1.2.2)) fun s1 =>
        if s1.1 = true then
          some (s1.2.2, 0)
        else
          some (([] : List (List Int)), 5)
      else
        some (([] : List (List Int)), v3.2)
    else
      some (([] : List (List Int)), 1)
  else
    some (([] : List (List Int)), 1)
theorem spec13 (n : Nat) (a0 : Alphabet) (a1 : Automaton) (a2 : Tree) (r : (List (List Int)) × Int) (h : repair_Holes n a0 a1 a2 = some r) :
    call Try.prog T H (.fn 13) [.p (.agg [.sl none 1 (List.map rowI a0.Ranks)]), .p (.agg [iv a1.States, .sl none 1 (List.map rowI a1.Final), .sl none 3 (List.map row_Rule a1.Rules)]), .p (.agg [iv a2.Sym, .sl none 2 (List.map row_Tree a2.Kids)])] [] = some (.ret (.p (.tup [.sl none 1 (List.map (rowL 1 rowI) r.1), iv r.2])), []) := by
  refine Sat.fn fun Q hQ => ?_
  unfold repair_Holes at h
  rw [call13, cf13]
  conv => arg 1; arg 7; unfold S22.c13 Try.f13; simp only [Option.getD_some, foldR, if_true]
  obtain ⟨v1, e_v1, h⟩ := ob h
  have e_v1c : call Try.prog T H (.fn 28) [.p (.agg [.sl none 1 (List.map rowI a0.Ranks)]), .p (.agg [iv a1.States, .sl none 1 (List.map rowI a1.Final), .sl none 3 (List.map row_Rule a1.Rules)])] [] = some (.ret (.p (bv v1)), []) := spec28 a0 a1 v1 e_v1
  by_cases c1 : v1 = true
  · have h := iteT h c1
    obtain ⟨v2, e_v2, h⟩ := ob h
    have e_v2c : call Try.prog T H (.fn 29) [.p (.agg [.sl none 1 (List.map rowI a0.Ranks)]), .p (.agg [iv a2.Sym, .sl none 2 (List.map row_Tree a2.Kids)])] [] = some (.ret (.p (bv v2)), []) := spec29 n a0 a2 v2 e_v2
    by_cases c2 : v2 = true
    · have h := iteT h c2
      obtain ⟨v3, e_v3, h⟩ := ob h
      have e_v3c : call Try.prog T H (.fn 37) [.p (.agg [.sl none 1 (List.map rowI a0.Ranks)]), .p (.agg [iv a1.States, .sl none 1 (List.map rowI a1.Final), .sl none 3 (List.map row_Rule a1.Rules)])] [] = some (.ret (.p (.tup [.sl none 1 (List.map rowI v3.1), iv v3.2])), []) := spec37 a0 a1 v3 e_v3
      by_cases c3 : v3.2 = 0
      · have h := iteT h c3
        have c3b : (v3.2 != 0) = false := bneF c3
        simp only [go_sem, e_v1c, c1, e_v2c, c2, e_v3c, c3b]
        refine Sat.callc ?_
        rw [call30]
        conv => arg 1; arg 7; unfold S22.c30 Try.f30; simp only [Option.getD_some]
        simp only [go_sem]
        refine Sat.ok ?_
        obtain ⟨v, e_v, h⟩ := ob h
        obtain ⟨w, e_w, h⟩ := ob h
        simp only [go_sem, e_v1c, c1, e_v2c, c2, e_v3c, c3b]
        have q : ∀ E c0 c2 c6, get E 4 = .ptr 1 0 → get E 10 = .ptr 5 0 → get E 8 = .ptr 3 0 → ltVis 7 E = true → call Try.prog T H (.fn 65) [.p (.agg [iv a2.Sym, .sl none 2 (List.map row_Tree a2.Kids)]), .ptr 10 0, .ptr 9 0, .ptr 8 0] [c0, .cells [.p (iv a1.States), .p (.sl none 1 (List.map rowI a1.Final)), .p (.sl none 3 (List.map row_Rule a1.Rules))], c2, .cells [.p (.sl none 1 (List.map rowI v3.1))], .dead, .cells [.nms 4 1], c6, .loop 0 none 140 13 E [45, 46] A13_0 B13_0, .cells [.yld 7], .cells [.p (iv 0)], .cells [.fn 65 [.ptr 10 0, .ptr 9 0, .ptr 8 0]]] = some (.ret (.p (bv true)), [c0, .cells [.p (iv a1.States), .p (.sl none 1 (List.map rowI a1.Final)), .p (.sl none 3 (List.map row_Rule a1.Rules))], c2, .cells [.p (.sl none 1 (List.map rowI v3.1))], .arr w.1 1 (List.map (rowA (rowL 3 row_repair_holes)) w.2.1), .cells [.ms 4 w.1 1 0 w.2.2], c6, .loop 0 none 140 13 E [45, 46] A13_0 B13_0, .cells [.yld 7], .cells [.p (iv v.2)], .cells [.fn 65 [.ptr 10 0, .ptr 9 0, .ptr 8 0]]]) := fun E c0 c2 c6 h4 h9 h8 hE => by
          have q := Hol.spec65 h4 h9 h8 (ltVis_iff.1 hE) n a1 v3.1 n [c0, .cells [.p (iv a1.States), .p (.sl none 1 (List.map rowI a1.Final)), .p (.sl none 3 (List.map row_Rule a1.Rules))], c2, .cells [.p (.sl none 1 (List.map rowI v3.1))], .dead, .cells [.nms 4 1], c6, .loop 0 none 140 13 E [45, 46] A13_0 B13_0, .cells [.yld 7], .cells [.p (iv 0)], .cells [.fn 65 [.ptr 10 0, .ptr 9 0, .ptr 8 0]]] ⟨by simp, rfl, rfl, rfl, rfl, rfl⟩ a2 (none, 0) v e_v
          have e1 : Hol.wS [c0, .cells [.p (iv a1.States), .p (.sl none 1 (List.map rowI a1.Final)), .p (.sl none 3 (List.map row_Rule a1.Rules))], c2, .cells [.p (.sl none 1 (List.map rowI v3.1))], .dead, .cells [.nms 4 1], c6, .loop 0 none 140 13 E [45, 46] A13_0 B13_0, .cells [.yld 7], .cells [.p (iv 0)], .cells [.fn 65 [.ptr 10 0, .ptr 9 0, .ptr 8 0]]] v = [c0, .cells [.p (iv a1.States), .p (.sl none 1 (List.map rowI a1.Final)), .p (.sl none 3 (List.map row_Rule a1.Rules))], c2, .cells [.p (.sl none 1 (List.map rowI v3.1))], .arr w.1 1 (List.map (rowA (rowL 3 row_repair_holes)) w.2.1), .cells [.ms 4 w.1 1 0 w.2.2], c6, .loop 0 none 140 13 E [45, 46] A13_0 B13_0, .cells [.yld 7], .cells [.p (iv v.2)], .cells [.fn 65 [.ptr 10 0, .ptr 9 0, .ptr 8 0]]] := by unfold Hol.wS Hol.yS; rw [e_w]; rfl
          rw [e1] at q; exact q
        refine Sat.callrange ?_
        rw [call64]
        conv => arg 1; arg 7; unfold S22.c64 Try.f64; simp only [Option.getD_some]
        simp only [go_sem, q, ltVis, List.all_cons, List.all_nil]
        refine Sat.ok ?_
        try simp only [go_sem, rangeK_ok, atLoop_some, pendK_none]
        try simp only [go_sem, e_v1c, c1, e_v2c, c2, e_v3c, c3b]
        refine run_rangeL (c := L13_6) (live := [10, 20, 114, 115, 116]) (by simp only [go_sem]) (M := fun i1 (s1 : Bool × Int × (List (List Int))) => [(10, .ptr 5 0), (20, .ptr 7 0), (114, .p (.sl none 1 (List.map rowI a1.Final))), (115, .p (iv (a1.Final.length : Int))), (116, .p (iv (i1 : Int)))]) (Z := fun i1 (s1 : Bool × Int × (List (List Int))) => [.cells [.p (.sl none 1 (List.map rowI a0.Ranks))], .cells [.p (iv a1.States), .p (.sl none 1 (List.map rowI a1.Final)), .p (.sl none 3 (List.map row_Rule a1.Rules))], .cells [.p (iv a2.Sym), .p (.sl none 2 (List.map row_Tree a2.Kids))], .cells [.p (.sl none 1 (List.map rowI v3.1))], .arr w.1 1 (List.map (rowA (rowL 3 row_repair_holes)) w.2.1), .cells [.ms 4 w.1 1 0 w.2.2], .cells [.p (iv a2.Sym), .p (.sl none 2 (List.map row_Tree a2.Kids))], .cells [.p (bv s1.1), .p (iv s1.2.1), .p (.sl none 1 (List.map (rowL 1 rowI) s1.2.2))]]) (N := fun (s1 : Bool × Int × (List (List Int))) => ⟨[(20, .ptr 7 0)], [.cells [.p (.sl none 1 (List.map rowI a0.Ranks))], .cells [.p (iv a1.States), .p (.sl none 1 (List.map rowI a1.Final)), .p (.sl none 3 (List.map row_Rule a1.Rules))], .cells [.p (iv a2.Sym), .p (.sl none 2 (List.map row_Tree a2.Kids))], .cells [.p (.sl none 1 (List.map rowI v3.1))], .arr w.1 1 (List.map (rowA (rowL 3 row_repair_holes)) w.2.1), .cells [.ms 4 w.1 1 0 w.2.2], .cells [.p (iv a2.Sym), .p (.sl none 2 (List.map row_Tree a2.Kids))], .cells [.p (bv s1.1), .p (iv s1.2.1), .p (.sl none 1 (List.map (rowL 1 rowI) s1.2.2))]], [], none, false⟩) h rfl rfl (fun _ _ => rfl) ?_ ?_ ?_
        · intro s1 h
          try dsimp only at h ⊢
          by_cases c4 : s1.1 = true
          · have h := iteT h c4
            simp only [go_sem, c4]
            injection h with h; subst h
            exact Sat.ok hQ
          · have h := iteF h c4
            have c4 := eq_false_of_ne_true c4
            simp only [go_sem, c4]
            injection h with h; subst h
            exact Sat.ok hQ
        · intro K1 s1 hb1 he1
          try dsimp only
          conv => arg 1; arg 7; unfold L13_6 loopAt S22.c13 Try.f13; simp only [loopIn, Option.getD_some, if_true]
          simp only [go_sem, he1]
          exact hb1
        · intro K1 k1 i1 x1 s1 n1 hR1 hE1 hb1 hx1 hi1 hw1 ih1 h
          try dsimp only at h ⊢
          conv => arg 1; arg 7; unfold L13_6 loopAt S22.c13 Try.f13; simp only [loopIn, Option.getD_some, if_true]
          obtain ⟨v4, e_v4, h⟩ := ob h
          obtain ⟨e_v4a, e_v4b, e_v4d⟩ := idxM_some e_v4
          simp only [Int.reduceToNat] at e_v4b
          simp only [Int.reduceToNat] at e_v4d
          obtain ⟨v5, e_v5, h⟩ := ob h
          obtain ⟨e_v5a, e_v5b⟩ := idx_some e_v5
          by_cases c5 : v5.ok = true
          · have h := iteT h c5
            obtain ⟨v6, e_v6, h⟩ := ob h
            have e_v6c : call Try.prog T H (.fn 40) [.p (.agg [bv true, iv v5.gone, .sl none 1 (List.map (rowL 1 rowI) v5.list)]), .p (.agg [bv s1.1, iv s1.2.1, .sl none 1 (List.map (rowL 1 rowI) s1.2.2)])] [] = some (.ret (.p (bv v6)), []) := spec40 (repair_holes.mk true v5.gone v5.list) (repair_holes.mk s1.1 s1.2.1 s1.2.2) v6 e_v6
            by_cases c6 : v6 = true
            · have h := iteT h c6
              simp only [go_sem, hx1, hi1, hw1, e_v4b, e_v4d, e_v5a, e_v5b, c5, e_v6c, c6, hR1, hE1]
              exact ih1 (true, v5.gone, v5.list) h
            · have h := iteF h c6
              have c6 := eq_false_of_ne_true c6
              simp only [go_sem, hx1, hi1, hw1, e_v4b, e_v4d, e_v5a, e_v5b, c5, e_v6c, c6, hR1, hE1]
              exact ih1 (s1.1, s1.2.1, s1.2.2) h
          · have h := iteF h c5
            have c5 := eq_false_of_ne_true c5
            simp only [go_sem, hx1, hi1, hw1, e_v4b, e_v4d, e_v5a, e_v5b, c5, hR1, hE1]
            exact ih1 (s1.1, s1.2.1, s1.2.2) h
      · have h := iteF h c3
        have c3b : (v3.2 != 0) = true := bneT c3
        simp only [go_sem, e_v1c, c1, e_v2c, c2, e_v3c, c3b]
        injection h with h; subst h
        exact Sat.ok hQ
    · have h := iteF h c2
      have c2 := eq_false_of_ne_true c2
      simp only [go_sem, e_v1c, c1, e_v2c, c2]
      injection h with h; subst h
      exact Sat.ok hQ
  · have h := iteF h c1
    have c1 := eq_false_of_ne_true c1
    simp only [go_sem, e_v1c, c1]
    injection h with h; subst h
    exact Sat.ok hQ

def law22_awake (n : Nat)  : Option Bool :=
  (repair_Relabel n (Alphabet.mk [0, 0, 2]) (Automaton.mk 1 [0] [(Rule.mk 1 ([] : List Int) 0), (Rule.mk 2 [0, 0] 0)]) (Tree.mk 2 [(Tree.mk 0 ([] : List Tree)), (Tree.mk 2 [(Tree.mk 1 ([] : List Tree)), (Tree.mk 0 ([] : List Tree))])])).bind fun v1 =>
  (repair_Holes n (Alphabet.mk [0, 0, 2]) (Automaton.mk 1 [0] [(Rule.mk 1 ([] : List Int) 0), (Rule.mk 2 [0, 0] 0)]) (Tree.mk 2 [(Tree.mk 0 ([] : List Tree)), (Tree.mk 2 [(Tree.mk 1 ([] : List Tree)), (Tree.mk 0 ([] : List Tree))])])).bind fun v2 =>
  if v1.2.2 = 0 then
    if v1.1 = 2 then
      (ref01_Same n v1.2.1 (Tree.mk 2 [(Tree.mk 1 ([] : List Tree)), (Tree.mk 2 [(Tree.mk 1 ([] : List Tree)), (Tree.mk 1 ([] : List Tree))])])).bind fun v3 =>
      if v3 = true then
        if v2.2 = 0 then
          (ref01_SameLists v2.1 [[0], [1, 1]]).bind fun v4 =>
          some v4
        else
          some false
      else
        some false
    else
      some false
  else
    some false
theorem spec9 (n : Nat)  (r : Bool) (h : law22_awake n = some r) :
    call Try.prog T H (.fn 9) [] [] = some (.ret (.p (bv r)), []) := by
  refine Sat.fn fun Q hQ => ?_
  unfold law22_awake at h
  rw [call9]
  conv => arg 1; arg 7; unfold S22.c9 Try.f9; simp only [Option.getD_some]
  obtain ⟨v1, e_v1, h⟩ := ob h
  have e_v1c : call Try.prog T H (.fn 10) [.p (.agg [.sl none 1 [[iv 0], [iv 0], [iv 2]]]), .p (.agg [iv 1, .sl none 1 [[iv 0]], .sl none 3 [[iv 1, .sl none 1 [], iv 0], [iv 2, .sl none 1 [[iv 0], [iv 0]], iv 0]]]), .p (.agg [iv 2, .sl none 2 [[iv 0, .sl none 2 []], [iv 2, .sl none 2 [[iv 1, .sl none 2 []], [iv 0, .sl none 2 []]]]]])] [] = some (.ret (.p (.tup [iv v1.1, .agg [iv v1.2.1.Sym, .sl none 2 (List.map row_Tree v1.2.1.Kids)], iv v1.2.2])), []) := by have q := spec10 n (Alphabet.mk [0, 0, 2]) (Automaton.mk 1 [0] [(Rule.mk 1 ([] : List Int) 0), (Rule.mk 2 [0, 0] 0)]) (Tree.mk 2 [(Tree.mk 0 ([] : List Tree)), (Tree.mk 2 [(Tree.mk 1 ([] : List Tree)), (Tree.mk 0 ([] : List Tree))])]) v1 e_v1; simp only [List.map_cons, List.map_nil, rowI, row_Rule_eq, row_Tree_eq] at q ⊢; exact q
  obtain ⟨v2, e_v2, h⟩ := ob h
  have e_v2c : call Try.prog T H (.fn 13) [.p (.agg [.sl none 1 [[iv 0], [iv 0], [iv 2]]]), .p (.agg [iv 1, .sl none 1 [[iv 0]], .sl none 3 [[iv 1, .sl none 1 [], iv 0], [iv 2, .sl none 1 [[iv 0], [iv 0]], iv 0]]]), .p (.agg [iv 2, .sl none 2 [[iv 0, .sl none 2 []], [iv 2, .sl none 2 [[iv 1, .sl none 2 []], [iv 0, .sl none 2 []]]]]])] [] = some (.ret (.p (.tup [.sl none 1 (List.map (rowL 1 rowI) v2.1), iv v2.2])), []) := by have q := spec13 n (Alphabet.mk [0, 0, 2]) (Automaton.mk 1 [0] [(Rule.mk 1 ([] : List Int) 0), (Rule.mk 2 [0, 0] 0)]) (Tree.mk 2 [(Tree.mk 0 ([] : List Tree)), (Tree.mk 2 [(Tree.mk 1 ([] : List Tree)), (Tree.mk 0 ([] : List Tree))])]) v2 e_v2; simp only [List.map_cons, List.map_nil, rowI, row_Rule_eq, row_Tree_eq] at q ⊢; exact q
  by_cases c1 : v1.2.2 = 0
  · have h := iteT h c1
    have c1b : (v1.2.2 == 0) = true := beqT c1
    by_cases c2 : v1.1 = 2
    · have h := iteT h c2
      have c2b : (v1.1 == 2) = true := beqT c2
      obtain ⟨v3, e_v3, h⟩ := ob h
      have e_v3c : call Try.prog T H (.fn 12) [.p (.agg [iv v1.2.1.Sym, .sl none 2 (List.map row_Tree v1.2.1.Kids)]), .p (.agg [iv 2, .sl none 2 [[iv 1, .sl none 2 []], [iv 2, .sl none 2 [[iv 1, .sl none 2 []], [iv 1, .sl none 2 []]]]]])] [] = some (.ret (.p (bv v3)), []) := by have q := spec12 n v1.2.1 (Tree.mk 2 [(Tree.mk 1 ([] : List Tree)), (Tree.mk 2 [(Tree.mk 1 ([] : List Tree)), (Tree.mk 1 ([] : List Tree))])]) v3 e_v3; simp only [List.map_cons, List.map_nil, row_Tree_eq] at q ⊢; exact q
      by_cases c3 : v3 = true
      · have h := iteT h c3
        by_cases c4 : v2.2 = 0
        · have h := iteT h c4
          have c4b : (v2.2 == 0) = true := beqT c4
          obtain ⟨v4, e_v4, h⟩ := ob h
          have e_v4c : call Try.prog T H (.fn 15) [.p (.sl none 1 (List.map (rowL 1 rowI) v2.1)), .p (.sl none 1 [[.sl none 1 [[iv 0]]], [.sl none 1 [[iv 1], [iv 1]]]])] [] = some (.ret (.p (bv v4)), []) := by have q := spec15 v2.1 [[0], [1, 1]] v4 e_v4; simp only [List.map_cons, List.map_nil, rowI, rowL] at q ⊢; exact q
          simp only [go_sem, e_v1c, e_v2c, c1b, c2b, e_v3c, c3, c4b, e_v4c]
          injection h with h; subst h
          exact Sat.ok hQ
        · have h := iteF h c4
          have c4b : (v2.2 == 0) = false := beqF c4
          simp only [go_sem, e_v1c, e_v2c, c1b, c2b, e_v3c, c3, c4b]
          injection h with h; subst h
          exact Sat.ok hQ
      · have h := iteF h c3
        have c3 := eq_false_of_ne_true c3
        simp only [go_sem, e_v1c, e_v2c, c1b, c2b, e_v3c, c3]
        injection h with h; subst h
        exact Sat.ok hQ
    · have h := iteF h c2
      have c2b : (v1.1 == 2) = false := beqF c2
      simp only [go_sem, e_v1c, e_v2c, c1b, c2b]
      injection h with h; subst h
      exact Sat.ok hQ
  · have h := iteF h c1
    have c1b : (v1.2.2 == 0) = false := beqF c1
    simp only [go_sem, e_v1c, e_v2c, c1b]
    injection h with h; subst h
    exact Sat.ok hQ

def law22_RepairRelabels (n : Nat) (a0 : Alphabet) (a1 : Automaton) (a2 : Tree) : Option Bool :=
  (law22_few n a0 a1 [a2]).bind fun v1 =>
  if v1 = true then
    (repair_Relabel n a0 a1 a2).bind fun v2 =>
    (ref22_Relabel n a0 a1 a2).bind fun v3 =>
    if v2.1 = v3.1 then
      if v2.2.2 = v3.2.2 then
        (ref01_Same n v2.2.1 v3.2.1).bind fun v4 =>
        if v4 = true then
          (law22_awake n).bind fun v5 =>
          some v5
        else
          some false
      else
        some false
    else
      some false
  else
    (law22_awake n).bind fun v6 =>
    some v6
theorem spec3 (n : Nat) (a0 : Alphabet) (a1 : Automaton) (a2 : Tree) (r : Bool) (h : law22_RepairRelabels n a0 a1 a2 = some r) :
    call Try.prog T H (.fn 3) [.p (.agg [.sl none 1 (List.map rowI a0.Ranks)]), .p (.agg [iv a1.States, .sl none 1 (List.map rowI a1.Final), .sl none 3 (List.map row_Rule a1.Rules)]), .p (.agg [iv a2.Sym, .sl none 2 (List.map row_Tree a2.Kids)])] [] = some (.ret (.p (bv r)), []) := by
  refine Sat.fn fun Q hQ => ?_
  unfold law22_RepairRelabels at h
  rw [call3]
  conv => arg 1; arg 7; unfold S22.c3 Try.f3; simp only [Option.getD_some]
  obtain ⟨v1, e_v1, h⟩ := ob h
  have e_v1c : call Try.prog T H (.fn 8) [.p (.agg [.sl none 1 (List.map rowI a0.Ranks)]), .p (.agg [iv a1.States, .sl none 1 (List.map rowI a1.Final), .sl none 3 (List.map row_Rule a1.Rules)]), .p (.sl none 2 [[iv a2.Sym, .sl none 2 (List.map row_Tree a2.Kids)]])] [] = some (.ret (.p (bv v1)), []) := by have q := spec8 n a0 a1 [a2] v1 e_v1; simp only [List.map_cons, List.map_nil, row_Tree_eq] at q ⊢; exact q
  by_cases c1 : v1 = true
  · have h := iteT h c1
    obtain ⟨v2, e_v2, h⟩ := ob h
    have e_v2c : call Try.prog T H (.fn 10) [.p (.agg [.sl none 1 (List.map rowI a0.Ranks)]), .p (.agg [iv a1.States, .sl none 1 (List.map rowI a1.Final), .sl none 3 (List.map row_Rule a1.Rules)]), .p (.agg [iv a2.Sym, .sl none 2 (List.map row_Tree a2.Kids)])] [] = some (.ret (.p (.tup [iv v2.1, .agg [iv v2.2.1.Sym, .sl none 2 (List.map row_Tree v2.2.1.Kids)], iv v2.2.2])), []) := spec10 n a0 a1 a2 v2 e_v2
    obtain ⟨v3, e_v3, h⟩ := ob h
    have e_v3c : call Try.prog T H (.fn 11) [.p (.agg [.sl none 1 (List.map rowI a0.Ranks)]), .p (.agg [iv a1.States, .sl none 1 (List.map rowI a1.Final), .sl none 3 (List.map row_Rule a1.Rules)]), .p (.agg [iv a2.Sym, .sl none 2 (List.map row_Tree a2.Kids)])] [] = some (.ret (.p (.tup [iv v3.1, .agg [iv v3.2.1.Sym, .sl none 2 (List.map row_Tree v3.2.1.Kids)], iv v3.2.2])), []) := spec11 n a0 a1 a2 v3 e_v3
    by_cases c2 : v2.1 = v3.1
    · have h := iteT h c2
      have c2b : (v2.1 == v3.1) = true := beqT c2
      by_cases c3 : v2.2.2 = v3.2.2
      · have h := iteT h c3
        have c3b : (v2.2.2 == v3.2.2) = true := beqT c3
        obtain ⟨v4, e_v4, h⟩ := ob h
        have e_v4c : call Try.prog T H (.fn 12) [.p (.agg [iv v2.2.1.Sym, .sl none 2 (List.map row_Tree v2.2.1.Kids)]), .p (.agg [iv v3.2.1.Sym, .sl none 2 (List.map row_Tree v3.2.1.Kids)])] [] = some (.ret (.p (bv v4)), []) := spec12 n v2.2.1 v3.2.1 v4 e_v4
        by_cases c4 : v4 = true
        · have h := iteT h c4
          obtain ⟨v5, e_v5, h⟩ := ob h
          have e_v5c : call Try.prog T H (.fn 9) [] [] = some (.ret (.p (bv v5)), []) := spec9 n v5 e_v5
          simp only [go_sem, e_v1c, c1, e_v2c, e_v3c, c2b, c3b, e_v4c, c4, e_v5c]
          injection h with h; subst h
          exact Sat.ok hQ
        · have h := iteF h c4
          have c4 := eq_false_of_ne_true c4
          simp only [go_sem, e_v1c, c1, e_v2c, e_v3c, c2b, c3b, e_v4c, c4]
          injection h with h; subst h
          exact Sat.ok hQ
      · have h := iteF h c3
        have c3b : (v2.2.2 == v3.2.2) = false := beqF c3
        simp only [go_sem, e_v1c, c1, e_v2c, e_v3c, c2b, c3b]
        injection h with h; subst h
        exact Sat.ok hQ
    · have h := iteF h c2
      have c2b : (v2.1 == v3.1) = false := beqF c2
      simp only [go_sem, e_v1c, c1, e_v2c, e_v3c, c2b]
      injection h with h; subst h
      exact Sat.ok hQ
  · have h := iteF h c1
    have c1 := eq_false_of_ne_true c1
    obtain ⟨v6, e_v6, h⟩ := ob h
    have e_v6c : call Try.prog T H (.fn 9) [] [] = some (.ret (.p (bv v6)), []) := spec9 n v6 e_v6
    simp only [go_sem, e_v1c, c1, e_v6c]
    injection h with h; subst h
    exact Sat.ok hQ

def law22_RepairHoles (n : Nat) (a0 : Alphabet) (a1 : Automaton) (a2 : Tree) : Option Bool :=
  (law22_few n a0 a1 [a2]).bind fun v1 =>
  if v1 = true then
    (repair_Holes n a0 a1 a2).bind fun v2 =>
    (ref22_Holes n a0 a1 a2).bind fun v3 =>
    if v2.2 = v3.2 then
      (ref01_SameLists v2.1 v3.1).bind fun v4 =>
      if v4 = true then
        (law22_awake n).bind fun v5 =>
        some v5
      else
        some false
    else
      some false
  else
    (law22_awake n).bind fun v6 =>
    some v6
theorem spec4 (n : Nat) (a0 : Alphabet) (a1 : Automaton) (a2 : Tree) (r : Bool) (h : law22_RepairHoles n a0 a1 a2 = some r) :
    call Try.prog T H (.fn 4) [.p (.agg [.sl none 1 (List.map rowI a0.Ranks)]), .p (.agg [iv a1.States, .sl none 1 (List.map rowI a1.Final), .sl none 3 (List.map row_Rule a1.Rules)]), .p (.agg [iv a2.Sym, .sl none 2 (List.map row_Tree a2.Kids)])] [] = some (.ret (.p (bv r)), []) := by
  refine Sat.fn fun Q hQ => ?_
  unfold law22_RepairHoles at h
  rw [call4]
  conv => arg 1; arg 7; unfold S22.c4 Try.f4; simp only [Option.getD_some]
  obtain ⟨v1, e_v1, h⟩ := ob h
  have e_v1c : call Try.prog T H (.fn 8) [.p (.agg [.sl none 1 (List.map rowI a0.Ranks)]), .p (.agg [iv a1.States, .sl none 1 (List.map rowI a1.Final), .sl none 3 (List.map row_Rule a1.Rules)]), .p (.sl none 2 [[iv a2.Sym, .sl none 2 (List.map row_Tree a2.Kids)]])] [] = some (.ret (.p (bv v1)), []) := by have q := spec8 n a0 a1 [a2] v1 e_v1; simp only [List.map_cons, List.map_nil, row_Tree_eq] at q ⊢; exact q
  by_cases c1 : v1 = true
  · have h := iteT h c1
    obtain ⟨v2, e_v2, h⟩ := ob h
    have e_v2c : call Try.prog T H (.fn 13) [.p (.agg [.sl none 1 (List.map rowI a0.Ranks)]), .p (.agg [iv a1.States, .sl none 1 (List.map rowI a1.Final), .sl none 3 (List.map row_Rule a1.Rules)]), .p (.agg [iv a2.Sym, .sl none 2 (List.map row_Tree a2.Kids)])] [] = some (.ret (.p (.tup [.sl none 1 (List.map (rowL 1 rowI) v2.1), iv v2.2])), []) := spec13 n a0 a1 a2 v2 e_v2
    obtain ⟨v3, e_v3, h⟩ := ob h
    have e_v3c : call Try.prog T H (.fn 14) [.p (.agg [.sl none 1 (List.map rowI a0.Ranks)]), .p (.agg [iv a1.States, .sl none 1 (List.map rowI a1.Final), .sl none 3 (List.map row_Rule a1.Rules)]), .p (.agg [iv a2.Sym, .sl none 2 (List.map row_Tree a2.Kids)])] [] = some (.ret (.p (.tup [.sl none 1 (List.map (rowL 1 rowI) v3.1), iv v3.2])), []) := spec14 n a0 a1 a2 v3 e_v3
    by_cases c2 : v2.2 = v3.2
    · have h := iteT h c2
      have c2b : (v2.2 == v3.2) = true := beqT c2
      obtain ⟨v4, e_v4, h⟩ := ob h
      have e_v4c : call Try.prog T H (.fn 15) [.p (.sl none 1 (List.map (rowL 1 rowI) v2.1)), .p (.sl none 1 (List.map (rowL 1 rowI) v3.1))] [] = some (.ret (.p (bv v4)), []) := spec15 v2.1 v3.1 v4 e_v4
      by_cases c3 : v4 = true
      · have h := iteT h c3
        obtain ⟨v5, e_v5, h⟩ := ob h
        have e_v5c : call Try.prog T H (.fn 9) [] [] = some (.ret (.p (bv v5)), []) := spec9 n v5 e_v5
        simp only [go_sem, e_v1c, c1, e_v2c, e_v3c, c2b, e_v4c, c3, e_v5c]
        injection h with h; subst h
        exact Sat.ok hQ
      · have h := iteF h c3
        have c3 := eq_false_of_ne_true c3
        simp only [go_sem, e_v1c, c1, e_v2c, e_v3c, c2b, e_v4c, c3]
        injection h with h; subst h
        exact Sat.ok hQ
    · have h := iteF h c2
      have c2b : (v2.2 == v3.2) = false := beqF c2
      simp only [go_sem, e_v1c, c1, e_v2c, e_v3c, c2b]
      injection h with h; subst h
      exact Sat.ok hQ
  · have h := iteF h c1
    have c1 := eq_false_of_ne_true c1
    obtain ⟨v6, e_v6, h⟩ := ob h
    have e_v6c : call Try.prog T H (.fn 9) [] [] = some (.ret (.p (bv v6)), []) := spec9 n v6 e_v6
    simp only [go_sem, e_v1c, c1, e_v6c]
    injection h with h; subst h
    exact Sat.ok hQ

end Go.AM.S22

namespace Go.AM.S22
open Go Go.Proofs Go.AM
set_option linter.unusedVariables false
theorem w64_eq {n : Int} (h1 : -9223372036854775808 ≤ n) (h2 : n ≤ 9223372036854775807) : w64 n = n := wrapN h1 h2
theorem app_ok {α : Type} {b : Nat} {xs ys : List α} (h : (xs.length + ys.length) * b ≤ 70368744177664) : app b xs ys = some (xs ++ ys) := if_pos h
mutual
def tsT : Tree → Nat
  | .mk _ k => 1 + tsL k
def tsL : List Tree → Nat
  | [] => 0
  | x :: r => tsT x + tsL r
end
mutual
def tdT : Tree → Nat
  | .mk _ k => tdL k
def tdL : List Tree → Nat
  | [] => 0
  | x :: r => max (tdT x + 1) (tdL r)
end
mutual
def twT : Tree → Bool
  | .mk _ k => decide (k.length < 9223372036854775808) && twL k
def twL : List Tree → Bool
  | [] => true
  | x :: r => twT x && twL r
end
theorem tsT_eq (t : Tree) : tsT t = 1 + tsL t.Kids := by cases t; rw [tsT]
theorem tdT_eq (t : Tree) : tdT t = tdL t.Kids := by cases t; rw [tdT]
theorem twT_eq (t : Tree) : twT t = (decide (t.Kids.length < 9223372036854775808) && twL t.Kids) := by cases t; rw [twT]
theorem tlen : ∀ l : List Tree, l.length ≤ tsL l
  | [] => Nat.zero_le _
  | x :: r => by rw [tsL, List.length_cons, tsT_eq]; have := tlen r; omega
theorem tdL_cons {x : Tree} {r : List Tree} {n : Nat} (h : tdL (x :: r) < n + 1) : tdT x < n ∧ tdL r < n + 1 := by rw [tdL] at h; omega
theorem tcount_eq : ∀ (n : Nat) (t : Tree) (m : Int), tdT t < n → twT t = true → 0 ≤ m → m ≤ 1000000 → ref01_count n t m = some (min (tsT t : Int) (m + 1)) := by
  intro n
  induction n with
  | zero => intro t m hd; omega
  | succ n ih =>
    intro t m hd hw h1 h2
    rw [twT_eq] at hw
    simp only [Bool.and_eq_true, decide_eq_true_eq] at hw
    rw [tdT_eq] at hd
    rw [ref01_count, rangeL, if_pos hw.1]
    suffices H : ∀ (l : List Tree) (i : Nat) (c : Nat) (k : Int → Option Int), 1 ≤ c → tdL l < n + 1 → twL l = true → rangeC (fun i1 x1 (s1 : Int) n1 => if s1 ≤ m then (ref01_count n x1 (w64 (m - s1))).bind fun v1 => n1 (w64 (s1 + v1)) else n1 s1) l i (min (c : Int) (m + 1)) k = k (min ((c + tsL l : Nat) : Int) (m + 1)) by
      have := H t.Kids 0 1 (fun s => some s) (by omega) hd hw.2
      rw [show min ((1 : Nat) : Int) (m + 1) = 1 by omega] at this
      rw [this, tsT_eq]
    intro l
    induction l with
    | nil => intro i c k _ _ _; rw [rangeC, tsL]; rfl
    | cons x r ihr =>
      intro i c k hc hd hw
      obtain ⟨d1, d2⟩ := tdL_cons hd
      rw [twL, Bool.and_eq_true] at hw
      rw [rangeC]
      by_cases cc : min (c : Int) (m + 1) ≤ m
      · rw [if_pos cc]
        have e : min (c : Int) (m + 1) = c := by omega
        rw [e, w64_eq (n := m - c) (by omega) (by omega), ih x _ d1 hw.1 (by omega) (by omega)]
        show rangeC _ r (i + 1) (w64 (c + min (tsT x : Int) (m - c + 1))) k = _
        rw [w64_eq (by omega) (by omega)]
        have := ihr (i + 1) (c + tsT x) k (by omega) d2 hw.2
        rw [show (c : Int) + min (tsT x : Int) (m - c + 1) = min ((c + tsT x : Nat) : Int) (m + 1) by omega, this, tsL]
        congr 2; omega
      · rw [if_neg cc]
        show rangeC _ r (i + 1) (min (c : Int) (m + 1)) k = _
        have := ihr (i + 1) (c + tsT x) k (by omega) d2 hw.2
        rw [show min (c : Int) (m + 1) = min ((c + tsT x : Nat) : Int) (m + 1) by omega, this, tsL]
        congr 2; omega
theorem tfew_eq {n : Nat} {t : Tree} {m : Int} (hd : tdT t < n) (hw : twT t = true) (h1 : 0 ≤ m) (h2 : m ≤ 1000000) : ref01_Few n t m = some (decide ((tsT t : Int) ≤ m)) := by
  rw [ref01_Few, tcount_eq n t m hd hw h1 h2]
  show some _ = some _
  congr 1
  exact decide_eq_decide.2 (by omega)
def ord (a b : Int) : Int := if a < b then -1 else if b < a then 1 else 0
theorem ord_range (a b : Int) : -1 ≤ ord a b ∧ ord a b ≤ 1 := by
  unfold ord; repeat' split
  all_goals omega
theorem ord_anti (a b : Int) : ord b a = - ord a b := by
  unfold ord; repeat' split
  all_goals omega
theorem ord_add (c a b : Int) : ord (c + a) (c + b) = ord a b := by
  unfold ord; repeat' split
  all_goals omega
def lexF (f : Tree → Tree → Int) : List Tree → List Tree → Int
  | [], [] => 0
  | [], _ :: _ => -1
  | _ :: _, [] => 1
  | a :: us, b :: bs => if f a b = 0 then lexF f us bs else f a b
def cmpF : Nat → Tree → Tree → Int
  | 0, _, _ => 0
  | n + 1, x, y => if ord (tsT x) (tsT y) = 0 then (if ord x.Sym y.Sym = 0 then lexF (cmpF n) x.Kids y.Kids else ord x.Sym y.Sym) else ord (tsT x) (tsT y)
theorem lexF_range {f : Tree → Tree → Int} (hf : ∀ a b, -1 ≤ f a b ∧ f a b ≤ 1) : ∀ us bs, -1 ≤ lexF f us bs ∧ lexF f us bs ≤ 1
  | [], [] => by rw [lexF]; omega
  | [], _ :: _ => by rw [lexF]; omega
  | _ :: _, [] => by rw [lexF]; omega
  | a :: us, b :: bs => by
    rw [lexF]
    split
    · exact lexF_range hf us bs
    · exact hf a b
theorem lexF_anti {f : Tree → Tree → Int} (hf : ∀ a b, f b a = - f a b) : ∀ us bs, lexF f bs us = - lexF f us bs
  | [], [] => by rw [lexF]; rfl
  | [], _ :: _ => by rw [lexF, lexF]; rfl
  | _ :: _, [] => by rw [lexF, lexF]
  | a :: us, b :: bs => by
    rw [lexF, lexF, hf a b]
    by_cases h : f a b = 0
    · rw [if_pos h, if_pos (by omega)]; exact lexF_anti hf us bs
    · rw [if_neg h, if_neg (by omega)]
theorem cmpF_range : ∀ n a b, -1 ≤ cmpF n a b ∧ cmpF n a b ≤ 1
  | 0, a, b => by rw [cmpF]; omega
  | n + 1, a, b => by
    rw [cmpF]
    split
    · split
      · exact lexF_range (cmpF_range n) _ _
      · exact ord_range _ _
    · exact ord_range _ _
theorem cmpF_anti : ∀ n a b, cmpF n b a = - cmpF n a b
  | 0, a, b => by rw [cmpF, cmpF]; rfl
  | n + 1, a, b => by
    rw [cmpF, cmpF, ord_anti (tsT a) (tsT b), ord_anti a.Sym b.Sym]
    by_cases h : ord (tsT a) (tsT b) = 0
    · rw [if_pos (by omega), if_pos h]
      by_cases h' : ord a.Sym b.Sym = 0
      · rw [if_pos (by omega), if_pos h']; exact lexF_anti (cmpF_anti n) _ _
      · rw [if_neg (by omega), if_neg h']
    · rw [if_neg (by omega), if_neg h]
mutual
def mzN : Tree → tree_sized
  | .mk l k => ⟨l, 1 + tsL k, mzL k⟩
def mzL : List Tree → List tree_sized
  | [] => []
  | x :: r => mzN x :: mzL r
end
theorem mzL_map : ∀ l : List Tree, mzL l = l.map mzN
  | [] => by rw [mzL]; rfl
  | x :: r => by rw [mzL, mzL_map r]; rfl
theorem mzN_eq (x : Tree) : mzN x = ⟨x.Sym, tsT x, x.Kids.map mzN⟩ := by cases x; rw [mzN, mzL_map, tsT]; congr 1
theorem measure_eq : ∀ (n : Nat) (x : Tree), tdT x < n → tsT x ≤ 100000 → tree_measure n x = some (mzN x) := by
  intro n
  induction n with
  | zero => intro x hd; omega
  | succ n ih =>
    intro x hd hs
    have hk := tlen x.Kids
    rw [tsT_eq] at hs
    rw [tree_measure, rangeL, if_pos (by omega)]
    suffices H : ∀ (l : List Tree) (i : Nat) (t : Int) (q : List tree_sized) (k : Int × List tree_sized → Option tree_sized), tdL l < n + 1 → 0 ≤ t → t + tsL l ≤ 1000000 → q.length + tsL l ≤ 1000000 → tsL l ≤ 100000 → rangeC (fun i1 x1 (s1 : Int × (List tree_sized)) n1 => (tree_measure n x1).bind fun v1 => (app 40 s1.2 [v1]).bind fun v2 => n1 (w64 (s1.1 + v1.size), v2)) l i (t, q) k = k (t + tsL l, q ++ l.map mzN) by
      rw [H x.Kids 0 1 [] _ (by rw [tdT_eq] at hd; omega) (by omega) (by omega) (by simp only [List.length_nil]; omega) (by omega), mzN_eq, tsT_eq]
      rfl
    intro l
    induction l with
    | nil => intro i t q k _ _ _ _ _; rw [rangeC, tsL]; simp
    | cons y r ihr =>
      intro i t q k h1 h2 h3 h4 h5
      obtain ⟨d1, d2⟩ := tdL_cons h1
      have hy := tsT_eq y
      rw [tsL] at h3 h4 h5
      rw [rangeC, ih y d1 (by omega)]
      simp only [Option.bind_some]
      rw [app_ok (by simp only [List.length_cons, List.length_nil]; omega)]
      simp only [Option.bind_some]
      rw [mzN_eq]
      simp only []
      rw [w64_eq (by omega) (by omega), ihr _ _ _ _ d2 (by omega) (by omega) (by rw [List.length_append]; simp only [List.length_cons, List.length_nil]; omega) (by omega)]
      rw [tsL, List.map_cons, mzN_eq y, List.append_assoc]
      congr 2
      omega
theorem compare_int (a b : Int) : cmp_Compare_int a b = some (ord a b) := by
  unfold cmp_Compare_int cmp_isNaN_int ord
  simp only [bne_self_eq_false, Option.bind_some]
  rw [if_neg (by decide), if_neg (by decide)]
  split
  · rfl
  · split <;> rfl
theorem or_int (a b : Int) : cmp_Or_int [a, b] = some (if a = 0 then b else a) := by
  unfold cmp_Or_int rangeL
  rw [if_pos (by simp only [List.length_cons, List.length_nil]; omega)]
  simp only [rangeC]
  by_cases h : a = 0
  · rw [if_pos h, if_pos h]
    by_cases h' : b = 0
    · rw [if_pos h', h']
    · rw [if_neg h']
  · rw [if_neg h, if_neg h]
theorem hcompare_eq : ∀ (n : Nat) (x y : Tree), tdT x < n → tsT x ≤ 100000 → tsT y ≤ 100000 → tree_compare n (mzN x) (mzN y) = some (cmpF n x y) := by
  intro n
  induction n with
  | zero => intro x y hd; omega
  | succ n ih =>
    intro x y hd hx hy
    have hk := tlen x.Kids
    have hk' := tlen y.Kids
    rw [tree_compare, mzN_eq x, mzN_eq y]
    simp only []
    rw [compare_int, compare_int]
    simp only [Option.bind_some]
    rw [or_int, cmpF]
    simp only [Option.bind_some]
    by_cases c1 : ord (tsT x) (tsT y) = 0
    · rw [if_pos c1, if_pos c1]
      by_cases c2 : ord x.Sym y.Sym = 0
      · rw [if_pos c2, if_pos c2]
        rw [tsT_eq] at hx hy
        simp only [jn]
        rw [rangeL, if_pos (by rw [List.length_map]; omega)]
        suffices H : ∀ (us bs pa pb : List Tree), pa.length = pb.length → x.Kids = pa ++ us → y.Kids = pb ++ bs → tdL us < n + 1 → tsL us ≤ 100000 → tsL bs ≤ 100000 → rangeC (fun i1 (x1 : tree_sized) (s1 : Unit) n1 => if ((y.Kids.map mzN).length : Int) ≤ (i1 : Int) then some 1 else ((y.Kids.map mzN)[i1]?).bind fun v4 => (tree_compare n x1 v4).bind fun v5 => if v5 = 0 then n1 () else some v5) (us.map mzN) pa.length () (fun _ => if ((x.Kids.map mzN).length : Int) < ((y.Kids.map mzN).length : Int) then some (-1) else some 0) = some (lexF (cmpF n) us bs) from
          H x.Kids y.Kids [] [] rfl rfl rfl (by rw [tdT_eq] at hd; exact hd) (by omega) (by omega)
        intro us
        induction us with
        | nil =>
          intro bs pa pb e1 e2 e3 _ _ _
          rw [List.map_nil, rangeC, List.length_map, List.length_map, e2, e3]
          cases bs with
          | nil => rw [if_neg (by simp; omega), lexF]
          | cons b bs => rw [if_pos (by simp; omega), lexF]
        | cons a us iha =>
          intro bs pa pb e1 e2 e3 h1 h2 h3
          obtain ⟨d1, d2⟩ := tdL_cons h1
          rw [tsL] at h2
          rw [List.map_cons, rangeC]
          cases bs with
          | nil => rw [if_pos (by rw [List.length_map, e3]; simp; omega), lexF]
          | cons b bs =>
            rw [tsL] at h3
            have hb : (y.Kids.map mzN)[pa.length]? = some (mzN b) := by rw [List.getElem?_map, e3, e1, List.getElem?_append_right (Nat.le_refl _), Nat.sub_self]; rfl
            rw [if_neg (by rw [List.length_map, e3]; simp; omega), hb]
            simp only [Option.bind_some]
            rw [ih a b d1 (by omega) (by omega), lexF]
            simp only [Option.bind_some]
            by_cases c : cmpF n a b = 0
            · rw [if_pos c, if_pos c]
              have := iha bs (pa ++ [a]) (pb ++ [b]) (by simp [e1]) (by simp [e2]) (by simp [e3]) d2 (by omega) (by omega)
              rw [List.length_append] at this
              exact this
            · rw [if_neg c, if_neg c]
      · rw [if_neg c2, if_neg c2]
    · rw [if_neg c1, if_neg c1, if_neg c1]
def PF {α : Type} (f : α → α → Int) : Prop := ∀ a b c, f a b ≤ 0 → f b c ≤ 0 → f a c ≤ 0 ∧ (f a c = 0 → f a b = 0 ∧ f b c = 0)
theorem ord_PF : PF ord := by
  intro a b c
  unfold ord
  repeat' split
  all_goals omega
theorem lexF_PF {f : Tree → Tree → Int} (hf : PF f) : PF (lexF f)
  | [], [], [] => by rw [lexF]; omega
  | [], [], _ :: _ => by rw [lexF, lexF]; omega
  | [], _ :: _, [] => by rw [lexF, lexF, lexF]; omega
  | [], _ :: _, _ :: _ => by rw [show lexF f [] (_ :: _) = -1 from by rw [lexF], show lexF f [] (_ :: _) = -1 from by rw [lexF]]; omega
  | _ :: _, [], _ => by rw [show lexF f (_ :: _) [] = 1 from by rw [lexF]]; omega
  | _ :: _, _ :: _, [] => by rw [show lexF f (_ :: _) [] = 1 from by rw [lexF]]; omega
  | a :: us, b :: bs, c :: cs => by
    intro h1 h2
    rw [lexF] at h1 h2
    have q := lexF_PF hf us bs cs
    have p := hf a b c
    rw [lexF, lexF, lexF]
    by_cases x1 : f a b = 0
    · rw [if_pos x1] at h1 ⊢
      by_cases x2 : f b c = 0
      · rw [if_pos x2] at h2 ⊢
        have p2 := p (by omega) (by omega)
        by_cases x3 : f a c = 0
        · rw [if_pos x3]; exact q h1 h2
        · rw [if_neg x3]; exact ⟨p2.1, fun h => absurd h x3⟩
      · rw [if_neg x2] at h2 ⊢
        have p2 := p (by omega) h2
        have x3 : f a c ≠ 0 := fun h => x2 (p2.2 h).2
        rw [if_neg x3]; exact ⟨p2.1, fun h => absurd h x3⟩
    · rw [if_neg x1] at h1 ⊢
      have hbc : f b c ≤ 0 := by
        by_cases x2 : f b c = 0
        · omega
        · rw [if_neg x2] at h2; exact h2
      have p2 := p h1 hbc
      have x3 : f a c ≠ 0 := fun h => x1 (p2.2 h).1
      rw [if_neg x3]; exact ⟨p2.1, fun h => absurd h x3⟩
/-- first by one measure, then by another -/
theorem then_PF {α : Type} {u v : α → α → Int} (hu : PF u) (hv : PF v) : PF (fun a b => if u a b = 0 then v a b else u a b) := by
  intro a b c h1 h2
  have p := hu a b c
  have q := hv a b c
  simp only [] at h1 h2 ⊢
  by_cases x1 : u a b = 0
  · rw [if_pos x1] at h1 ⊢
    by_cases x2 : u b c = 0
    · rw [if_pos x2] at h2 ⊢
      have p2 := p (by omega) (by omega)
      by_cases x3 : u a c = 0
      · rw [if_pos x3]; exact q h1 h2
      · rw [if_neg x3]; exact ⟨p2.1, fun h => absurd h x3⟩
    · rw [if_neg x2] at h2 ⊢
      have p2 := p (by omega) h2
      have x3 : u a c ≠ 0 := fun h => x2 (p2.2 h).2
      rw [if_neg x3]; exact ⟨p2.1, fun h => absurd h x3⟩
  · rw [if_neg x1] at h1 ⊢
    have hbc : u b c ≤ 0 := by
      by_cases x2 : u b c = 0
      · omega
      · rw [if_neg x2] at h2; exact h2
    have p2 := p h1 hbc
    have x3 : u a c ≠ 0 := fun h => x1 (p2.2 h).1
    rw [if_neg x3]; exact ⟨p2.1, fun h => absurd h x3⟩
theorem cmpF_PF : ∀ n, PF (cmpF n)
  | 0 => by intro a b c; rw [cmpF, cmpF, cmpF]; omega
  | n + 1 => by
    have h := then_PF (α := Tree) (u := fun x y => ord (tsT x) (tsT y)) (v := fun x y => if ord x.Sym y.Sym = 0 then lexF (cmpF n) x.Kids y.Kids else ord x.Sym y.Sym) (fun a b c => ord_PF _ _ _)
      (then_PF (u := fun x y : Tree => ord x.Sym y.Sym) (v := fun x y : Tree => lexF (cmpF n) x.Kids y.Kids) (fun a b c => ord_PF _ _ _) (fun a b c => lexF_PF (cmpF_PF n) _ _ _))
    intro a b c
    have := h a b c
    rw [cmpF, cmpF, cmpF]
    exact this
theorem Compare_eq {n : Nat} {x y : Tree} (dx : tdT x < n) (dy : tdT y < n) (sx : tsT x ≤ 100000) (sy : tsT y ≤ 100000) : tree_Compare n x y = some (cmpF n x y) := by
  unfold tree_Compare
  rw [measure_eq n x dx sx, measure_eq n y dy sy]
  simp only [Option.bind_some]
  rw [hcompare_eq n x y dx sx sy]
  rfl
set_option linter.unusedVariables false
theorem tree_Size_eq : ∀ (n : Nat) (t : Tree), tdT t < n → tsT t ≤ 1000000 → tree_Size n t = some (tsT t : Int) := by
  intro n
  induction n with
  | zero => intro t hd; omega
  | succ n ih =>
    intro t hd hs
    rw [tdT_eq] at hd
    have hlen := tlen t.Kids
    rw [tsT_eq] at hs
    rw [tree_Size, rangeL, if_pos (by omega)]
    suffices H : ∀ (l : List Tree) (i : Nat) (s : Int) (k : Int → Option Int), tdL l < n + 1 → 1 ≤ s → s + tsL l ≤ 1000001 → rangeC (fun i1 x1 (s1 : Int) n1 => (tree_Size n x1).bind fun v1 => n1 (w64 (s1 + v1))) l i s k = k (s + tsL l) by
      rw [H t.Kids 0 1 _ hd (by omega) (by omega), tsT_eq]
      congr 1
    intro l
    induction l with
    | nil => intro i s k _ _ _; rw [rangeC, tsL]; congr 1; simp
    | cons x r ihr =>
      intro i s k hd h0 h1
      obtain ⟨d1, d2⟩ := tdL_cons hd
      rw [tsL] at h1
      rw [rangeC, ih x d1 (by omega)]
      simp only [Option.bind_some]
      rw [w64_eq (by omega) (by omega), ihr _ _ _ d2 (by omega) (by omega), tsL]
      congr 1; omega
theorem ref01_Size_eq : ∀ (n : Nat) (t : Tree), tdT t < n → tsT t ≤ 1000000 → ref01_Size n t = some (tsT t : Int) := by
  intro n
  induction n with
  | zero => intro t hd; omega
  | succ n ih =>
    intro t hd hs
    rw [tdT_eq] at hd
    have hlen := tlen t.Kids
    rw [tsT_eq] at hs
    rw [ref01_Size, rangeL, if_pos (by omega)]
    suffices H : ∀ (l : List Tree) (i : Nat) (s : Int) (k : Int → Option Int), tdL l < n + 1 → 1 ≤ s → s + tsL l ≤ 1000001 → rangeC (fun i1 x1 (s1 : Int) n1 => (ref01_Size n x1).bind fun v1 => n1 (w64 (s1 + v1))) l i s k = k (s + tsL l) by
      rw [H t.Kids 0 1 _ hd (by omega) (by omega), tsT_eq]
      congr 1
    intro l
    induction l with
    | nil => intro i s k _ _ _; rw [rangeC, tsL]; congr 1; simp
    | cons x r ihr =>
      intro i s k hd h0 h1
      obtain ⟨d1, d2⟩ := tdL_cons hd
      rw [tsL] at h1
      rw [rangeC, ih x d1 (by omega)]
      simp only [Option.bind_some]
      rw [w64_eq (by omega) (by omega), ihr _ _ _ d2 (by omega) (by omega), tsL]
      congr 1; omega
mutual
theorem td_le : ∀ t : Tree, tdT t + 1 ≤ tsT t
  | .mk s k => by rw [tdT, tsT]; have := tdL_le k; omega
theorem tdL_le : ∀ l : List Tree, tdL l ≤ tsL l
  | [] => by rw [tdL, tsL]; exact Nat.le_refl _
  | x :: r => by rw [tdL, tsL]; have := td_le x; have := tdL_le r; omega
end
theorem order_eq (a b : Int) : ref01_order a b = some (ord a b) := by
  unfold ref01_order ord
  split
  · rfl
  · split <;> rfl
theorem rcompare_eq : ∀ (n : Nat) (x y : Tree), tdT x + 1 < n → tdT y + 1 < n → tsT x ≤ 100000 → tsT y ≤ 100000 → ref01_Compare n x y = some (cmpF n x y) := by
  intro n
  induction n with
  | zero => intro x y hd; omega
  | succ n ih =>
    intro x y hd hd' hx hy
    have hk := tlen x.Kids
    have hk' := tlen y.Kids
    rw [ref01_Compare, ref01_Size_eq n x (by omega) (by omega), ref01_Size_eq n y (by omega) (by omega)]
    rw [tdT_eq] at hd hd'
    have hx' := hx
    have hy' := hy
    rw [tsT_eq] at hx' hy'
    simp only [Option.bind_some]
    rw [order_eq, order_eq, order_eq, cmpF]
    simp only [Option.bind_some]
    by_cases c1 : ord (tsT x) (tsT y) = 0
    · rw [if_pos c1, if_pos c1]
      by_cases c2 : ord x.Sym y.Sym = 0
      · rw [if_pos c2, if_pos c2]
        have e0 : minI (x.Kids.length : Int) (y.Kids.length : Int) = ((min x.Kids.length y.Kids.length : Nat) : Int) := by unfold minI; split <;> omega
        rw [e0, rangeI, if_pos (by omega), Int.toNat_natCast]
        suffices H : ∀ (us bs pa pb : List Tree), pa.length = pb.length → x.Kids = pa ++ us → y.Kids = pb ++ bs → tdL us + 1 < n + 1 → tdL bs + 1 < n + 1 → tsL us ≤ 100000 → tsL bs ≤ 100000 → rangeC (fun i1 (_ : Unit) (s1 : Unit) n1 => (x.Kids[i1]?).bind fun v6 => (y.Kids[i1]?).bind fun v7 => (ref01_Compare n v6 v7).bind fun v8 => if v8 = 0 then n1 () else some v8) (List.replicate (min us.length bs.length) ()) pa.length () (fun _ => some (ord (x.Kids.length : Int) (y.Kids.length : Int))) = some (lexF (cmpF n) us bs) from
          H x.Kids y.Kids [] [] rfl rfl rfl (by omega) (by omega) (by omega) (by omega)
        intro us
        induction us with
        | nil =>
          intro bs pa pb e1 e2 e3 _ _ _ _
          rw [List.length_nil, Nat.zero_min, List.replicate_zero, rangeC, e2, e3]
          unfold ord
          cases bs with
          | nil => rw [if_neg (by simp; omega), if_neg (by simp; omega), lexF]
          | cons b bs => rw [if_pos (by simp; omega), lexF]
        | cons a us iha =>
          intro bs pa pb e1 e2 e3 h1 h1' h2 h3
          have h4 := h1
          rw [tdL] at h4
          rw [tsL] at h2
          cases bs with
          | nil =>
            rw [List.length_nil, Nat.min_zero, List.replicate_zero, rangeC, e2, e3]
            unfold ord
            rw [if_neg (by simp; omega), if_pos (by simp; omega), lexF]
          | cons b bs =>
            rw [tsL] at h3
            have h4' := h1'
            rw [tdL] at h4'
            have ha : x.Kids[pa.length]? = some a := by rw [e2, List.getElem?_append_right (Nat.le_refl _), Nat.sub_self]; rfl
            have hb : y.Kids[pa.length]? = some b := by rw [e3, e1, List.getElem?_append_right (Nat.le_refl _), Nat.sub_self]; rfl
            rw [List.length_cons, List.length_cons, Nat.succ_min_succ, List.replicate_succ, rangeC, ha, hb]
            simp only [Option.bind_some]
            rw [ih a b (by omega) (by omega) (by omega) (by omega), lexF]
            simp only [Option.bind_some]
            by_cases c : cmpF n a b = 0
            · rw [if_pos c, if_pos c]
              have := iha bs (pa ++ [a]) (pb ++ [b]) (by simp [e1]) (by simp [e2]) (by simp [e3]) (by omega) (by omega) (by omega) (by omega)
              rw [List.length_append] at this
              exact this
            · rw [if_neg c, if_neg c]
      · rw [if_neg c2, if_neg c2]
    · rw [if_neg c1, if_neg c1]
set_option linter.unusedVariables false
def rk (r : List Int) (s : Int) : Int := (r[s.toNat]?).getD 0
theorem rk_get {r : List Int} {s : Int} (h0 : 0 ≤ s) (h1 : s < r.length) : idx r s = some (rk r s) := by
  unfold idx rk
  rw [if_pos h0, List.getElem?_eq_getElem (by omega)]; rfl
mutual
def shT (r : List Int) : Tree → Bool
  | .mk s k => decide (0 ≤ s ∧ s < r.length ∧ (k.length : Int) = rk r s) && shL r k
def shL (r : List Int) : List Tree → Bool
  | [] => true
  | x :: q => shT r x && shL r q
end
theorem shT_eq (r : List Int) (t : Tree) : shT r t = (decide (0 ≤ t.Sym ∧ t.Sym < r.length ∧ (t.Kids.length : Int) = rk r t.Sym) && shL r t.Kids) := by cases t; rw [shT]
theorem tw_out {t : Tree} (h : twT t = true) : t.Kids.length < 9223372036854775808 ∧ twL t.Kids = true := by
  rw [twT_eq] at h; simpa only [Bool.and_eq_true, decide_eq_true_eq] using h
theorem tw_cons {x : Tree} {q : List Tree} (h : twL (x :: q) = true) : twT x = true ∧ twL q = true := by
  rw [twL] at h; simpa only [Bool.and_eq_true] using h
theorem tformed_eq (r : List Int) : ∀ (n : Nat) (t : Tree) (m : Int), tdT t < n → twT t = true → 0 ≤ m → m ≤ 1000000 →
    (((tsT t : Int) ≤ m ∧ shT r t = true) ∧ tree_formed n ⟨r⟩ t m = some (true, m - tsT t)) ∨ (¬ ((tsT t : Int) ≤ m ∧ shT r t = true) ∧ ∃ v, tree_formed n ⟨r⟩ t m = some (false, v)) := by
  intro n
  induction n with
  | zero => intro t m hd; omega
  | succ n ih =>
    intro t m hd hw h1 h2
    obtain ⟨w1, w2⟩ := tw_out hw
    rw [tree_formed, shT_eq, tsT_eq]
    simp only [Bool.and_eq_true, decide_eq_true_eq]
    have e1 : w64 (m - 1) = m - 1 := w64_eq (by omega) (by omega)
    rw [e1]
    by_cases c1 : m - 1 < 0
    · exact .inr ⟨by omega, _, by rw [if_pos c1]⟩
    rw [if_neg c1]
    by_cases c2 : t.Sym < 0
    · exact .inr ⟨by omega, _, by rw [if_pos c2]⟩
    rw [if_neg c2]
    by_cases c3 : (r.length : Int) ≤ t.Sym
    · exact .inr ⟨by omega, _, by rw [if_pos c3]⟩
    rw [if_neg c3, rk_get (by omega) (by omega)]
    simp only [Option.bind_some]
    by_cases c4 : (t.Kids.length : Int) = rk r t.Sym
    · rw [if_pos c4]
      rw [rangeL, if_pos w1]
      rw [tdT_eq] at hd
      suffices H : ∀ (l : List Tree) (i : Nat) (s : Int), tdL l < n + 1 → twL l = true → 0 ≤ s → s ≤ 1000000 →
        (((tsL l : Int) ≤ s ∧ shL r l = true) ∧ ∀ k : Int → Option (Bool × Int), rangeC (fun i1 x1 (s1 : Int) n1 => (tree_formed n ⟨r⟩ x1 s1).bind fun v2 => if v2.1 = true then n1 v2.2 else some (false, v2.2)) l i s k = k (s - tsL l)) ∨
        (¬ ((tsL l : Int) ≤ s ∧ shL r l = true) ∧ ∃ v, ∀ k : Int → Option (Bool × Int), rangeC (fun i1 x1 (s1 : Int) n1 => (tree_formed n ⟨r⟩ x1 s1).bind fun v2 => if v2.1 = true then n1 v2.2 else some (false, v2.2)) l i s k = some (false, v)) by
        rcases H t.Kids 0 (m - 1) hd w2 (by omega) (by omega) with ⟨c, e⟩ | ⟨c, v, e⟩
        · exact .inl ⟨⟨by omega, ⟨by omega, by omega, c4⟩, c.2⟩, by rw [e]; congr 2; omega⟩
        · exact .inr ⟨fun hh => c ⟨by omega, hh.2.2⟩, v, e _⟩
      intro l
      induction l with
      | nil => intro i s _ _ h1 h2; exact .inl ⟨⟨by rw [tsL]; exact h1, by rw [shL]⟩, fun k => by rw [rangeC, tsL]; congr 1; simp⟩
      | cons x q ihr =>
        intro i s hd hw h1 h2
        obtain ⟨d1, d2⟩ := tdL_cons hd
        obtain ⟨v1, v2⟩ := tw_cons hw
        rw [tsL, shL]
        simp only [Bool.and_eq_true, rangeC]
        rcases ih x s d1 v1 h1 h2 with ⟨c, e⟩ | ⟨c, v, e⟩
        · rcases ihr (i + 1) (s - tsT x) d2 v2 (by omega) (by omega) with ⟨c', e'⟩ | ⟨c', v, e'⟩
          · exact .inl ⟨⟨by omega, c.2, c'.2⟩, fun k => by rw [e]; simp only [Option.bind_some, if_true]; rw [e' k]; congr 1; omega⟩
          · exact .inr ⟨fun hh => c' ⟨by omega, hh.2.2⟩, v, fun k => by rw [e]; simp only [Option.bind_some, if_true]; rw [e' k]⟩
        · exact .inr ⟨fun hh => c ⟨by omega, hh.2.1⟩, v, fun k => by rw [e]; rfl⟩
    · rw [if_neg c4]
      exact .inr ⟨fun hh => c4 hh.2.1.2.2, _, rfl⟩
theorem shaped_eq (r : List Int) : ∀ (n : Nat) (t : Tree), tdT t < n → twT t = true → ref01_shaped n ⟨r⟩ t = some (shT r t) := by
  intro n
  induction n with
  | zero => intro t hd; omega
  | succ n ih =>
    intro t hd hw
    obtain ⟨w1, w2⟩ := tw_out hw
    rw [ref01_shaped, shT_eq]
    by_cases c2 : t.Sym < 0
    · rw [if_pos c2, decide_eq_false (by omega)]; rfl
    rw [if_neg c2]
    by_cases c3 : (r.length : Int) ≤ t.Sym
    · simp only [] at c3 ⊢
      rw [if_pos c3, decide_eq_false (by omega)]; rfl
    have c3' : ¬ (r.length : Int) ≤ t.Sym := c3
    rw [if_neg c3, show idx (Alphabet.mk r).Ranks t.Sym = some (rk r t.Sym) from rk_get (r := r) (Int.not_lt.1 c2) (Int.not_le.1 c3')]
    simp only [Option.bind_some]
    by_cases c4 : (t.Kids.length : Int) = rk r t.Sym
    · rw [if_pos c4, rangeL, if_pos w1, decide_eq_true ⟨Int.not_lt.1 c2, Int.not_le.1 c3', c4⟩, Bool.true_and]
      rw [tdT_eq] at hd
      suffices H : ∀ (l : List Tree) (i : Nat), tdL l < n + 1 → twL l = true → rangeC (fun i1 x1 (s1 : Unit) n1 => (ref01_shaped n ⟨r⟩ x1).bind fun v2 => if v2 = true then n1 () else some false) l i () (fun _ => some true) = some (shL r l) from H t.Kids 0 hd w2
      intro l
      induction l with
      | nil => intro i _ _; rw [rangeC, shL]
      | cons x q ihr =>
        intro i hd hw
        obtain ⟨d1, d2⟩ := tdL_cons hd
        obtain ⟨v1, v2⟩ := tw_cons hw
        rw [rangeC, ih x d1 v1, shL]
        simp only [Option.bind_some]
        cases shT r x with
        | true => rw [if_pos rfl, ihr (i + 1) d2 v2]; rfl
        | false => rfl
    · rw [if_neg c4, decide_eq_false (fun hh => c4 hh.2.2)]; rfl
def vA (r : List Int) : Bool := decide (r.length ≤ 12) && r.all fun x => decide (0 ≤ x ∧ x ≤ 3)
theorem hvA (r : List Int) : tree_ValidAlphabet ⟨r⟩ = some (vA r) := by
  unfold tree_ValidAlphabet vA
  simp only []
  by_cases c : (r.length : Int) ≤ 12
  · rw [if_pos c, decide_eq_true (by omega : r.length ≤ 12), Bool.true_and]
    simp only [jn]
    rw [rangeL, if_pos (by omega)]
    suffices H : ∀ (l : List Int) (i : Nat), rangeC (fun i1 (x1 : Int) (s1 : Unit) n1 => (tree_ValidAlphabet_1 x1).bind fun v1 => if v1 = true then some (!decide ((0 : Int) ≤ (i1 : Int))) else n1 ()) l i () (fun _ => some (!decide ((0 : Int) ≤ -1))) = some (l.all fun x => decide (0 ≤ x ∧ x ≤ 3)) from H r 0
    intro l
    induction l with
    | nil => intro i; rw [rangeC]; rfl
    | cons x q ih =>
      intro i
      rw [rangeC, List.all_cons]
      unfold tree_ValidAlphabet_1
      by_cases c1 : x < 0
      · rw [if_pos c1, decide_eq_false (by omega : ¬ (0 ≤ x ∧ x ≤ 3))]
        simp only [Option.bind_some, if_true]
        rw [decide_eq_true (by omega : (0 : Int) ≤ (i : Int))]; rfl
      · rw [if_neg c1]
        simp only [Option.bind_some]
        by_cases c2 : 3 < x
        · rw [decide_eq_true c2, decide_eq_false (by omega : ¬ (0 ≤ x ∧ x ≤ 3)), if_pos rfl, decide_eq_true (by omega : (0 : Int) ≤ (i : Int))]; rfl
        · rw [decide_eq_false c2, decide_eq_true (by omega : 0 ≤ x ∧ x ≤ 3), if_neg (by decide), Bool.true_and]
          exact ih (i + 1)
  · rw [if_neg c, decide_eq_false (by omega : ¬ r.length ≤ 12)]; rfl
theorem rvA (r : List Int) : ref01_ValidAlphabet ⟨r⟩ = some (vA r) := by
  unfold ref01_ValidAlphabet vA
  simp only []
  by_cases c : 12 < (r.length : Int)
  · rw [if_pos c, decide_eq_false (by omega : ¬ r.length ≤ 12)]; rfl
  · rw [if_neg c, decide_eq_true (by omega : r.length ≤ 12), Bool.true_and, rangeL, if_pos (by omega)]
    suffices H : ∀ (l : List Int) (i : Nat), rangeC (fun i1 (x1 : Int) (s1 : Unit) n1 => if x1 < 0 then some false else if 3 < x1 then some false else n1 ()) l i () (fun _ => some true) = some (l.all fun x => decide (0 ≤ x ∧ x ≤ 3)) from H r 0
    intro l
    induction l with
    | nil => intro i; rw [rangeC]; rfl
    | cons x q ih =>
      intro i
      rw [rangeC, List.all_cons]
      by_cases c1 : x < 0
      · rw [if_pos c1, decide_eq_false (by omega : ¬ (0 ≤ x ∧ x ≤ 3))]; rfl
      · rw [if_neg c1]
        by_cases c2 : 3 < x
        · rw [if_pos c2, decide_eq_false (by omega : ¬ (0 ≤ x ∧ x ≤ 3))]; rfl
        · rw [if_neg c2, decide_eq_true (by omega : 0 ≤ x ∧ x ≤ 3), Bool.true_and]
          exact ih (i + 1)
def tvld (r : List Int) (t : Tree) : Bool := vA r && (decide ((tsT t : Int) ≤ 300) && shT r t)
theorem tvalid_eq (r : List Int) {n : Nat} {t : Tree} (hd : tdT t < n) (hw : twT t = true) : tree_Valid n ⟨r⟩ t = some (tvld r t) := by
  unfold tree_Valid tvld
  rw [hvA]
  simp only [Option.bind_some]
  cases vA r with
  | false => rfl
  | true =>
    rw [if_pos rfl, Bool.true_and]
    rcases tformed_eq r n t 300 hd hw (by omega) (by omega) with ⟨c, e⟩ | ⟨c, v, e⟩
    · rw [e, decide_eq_true c.1, c.2]; rfl
    · rw [e]
      simp only [Option.bind_some]
      congr 1
      cases h1 : shT r t with
      | false => simp
      | true => rw [decide_eq_false (fun h2 => c ⟨h2, h1⟩)]; rfl
theorem rtvalid_eq (r : List Int) {n : Nat} {t : Tree} (hd : tdT t < n) (hw : twT t = true) : ref01_Valid n ⟨r⟩ t = some (tvld r t) := by
  unfold ref01_Valid tvld
  rw [rvA]
  simp only [Option.bind_some]
  cases vA r with
  | false => rfl
  | true =>
    rw [if_pos rfl, Bool.true_and, tfew_eq hd hw (by omega) (by omega)]
    simp only [Option.bind_some]
    by_cases c3 : (tsT t : Int) ≤ 300
    · rw [decide_eq_true c3, if_pos rfl, shaped_eq r n t hd hw]; rfl
    · rw [decide_eq_false c3]; rfl
set_option linter.unusedVariables false
theorem ord_zero {a b : Int} : ord a b = 0 ↔ a = b := by
  unfold ord; repeat' split
  all_goals omega
theorem lexF_zero {f : Tree → Tree → Int} {n : Nat} (hf : ∀ a b, tdT a < n → (f a b = 0 ↔ a = b)) : ∀ us vs, tdL us < n + 1 → (lexF f us vs = 0 ↔ us = vs)
  | [], [], _ => by rw [lexF]; simp
  | [], _ :: _, _ => by rw [lexF]; simp
  | _ :: _, [], _ => by rw [lexF]; simp
  | a :: us, b :: vs, h => by
    obtain ⟨d1, d2⟩ := tdL_cons h
    rw [lexF]
    have h1 := hf a b d1
    have h2 := lexF_zero hf us vs d2
    by_cases c : f a b = 0
    · rw [if_pos c, h2, List.cons.injEq]; exact ⟨fun e => ⟨h1.1 c, e⟩, fun e => e.2⟩
    · rw [if_neg c, List.cons.injEq]; exact ⟨fun e => absurd e c, fun e => absurd (h1.2 e.1) c⟩
theorem cmpF_zero : ∀ (n : Nat) (x y : Tree), tdT x < n → (cmpF n x y = 0 ↔ x = y)
  | 0, x, y, h => by omega
  | n + 1, x, y, h => by
    rw [cmpF]
    rw [tdT_eq] at h
    have h2 := lexF_zero (f := cmpF n) (n := n) (fun a b d => cmpF_zero n a b d) x.Kids y.Kids h
    by_cases c1 : ord (tsT x) (tsT y) = 0
    · rw [if_pos c1]
      by_cases c2 : ord x.Sym y.Sym = 0
      · rw [if_pos c2, h2]
        constructor
        · intro e
          have := ord_zero.1 c2
          obtain ⟨s, k⟩ := x; obtain ⟨s', k'⟩ := y
          simp only [] at e this
          rw [e, this]
        · intro e; rw [e]
      · rw [if_neg c2]
        exact ⟨fun e => absurd e c2, fun e => absurd (ord_zero.2 (by rw [e])) c2⟩
    · rw [if_neg c1]
      exact ⟨fun e => absurd e c1, fun e => absurd (ord_zero.2 (by rw [e])) c1⟩
theorem same_eq : ∀ (n : Nat) (x y : Tree), tdT x < n → twT x = true → (x = y ∧ ref01_Same n x y = some true) ∨ (x ≠ y ∧ ref01_Same n x y = some false) := by
  intro n
  induction n with
  | zero => intro x y h; omega
  | succ n ih =>
    intro x y hd hw
    obtain ⟨w1, w2⟩ := tw_out hw
    rw [tdT_eq] at hd
    rw [ref01_Same]
    by_cases c1 : x.Sym = y.Sym
    · rw [if_pos c1]
      by_cases c2 : (x.Kids.length : Int) = y.Kids.length
      · rw [if_pos c2, rangeL, if_pos w1]
        suffices H : ∀ (us vs p : List Tree), us.length = vs.length → y.Kids = p ++ vs → tdL us < n + 1 → twL us = true →
          (us = vs ∧ rangeC (fun i1 x1 (s1 : Unit) n1 => (y.Kids[i1]?).bind fun v1 => (ref01_Same n x1 v1).bind fun v2 => if v2 = true then n1 () else some false) us p.length () (fun _ => some true) = some true) ∨
          (us ≠ vs ∧ rangeC (fun i1 x1 (s1 : Unit) n1 => (y.Kids[i1]?).bind fun v1 => (ref01_Same n x1 v1).bind fun v2 => if v2 = true then n1 () else some false) us p.length () (fun _ => some true) = some false) by
          rcases H x.Kids y.Kids [] (by omega) rfl hd w2 with ⟨e, h⟩ | ⟨e, h⟩
          · refine .inl ⟨?_, h⟩
            obtain ⟨s, k⟩ := x; obtain ⟨s', k'⟩ := y
            simp only [] at e c1
            rw [e, c1]
          · exact .inr ⟨fun ee => e (by rw [ee]), h⟩
        intro us
        induction us with
        | nil =>
          intro vs p hl _ _ _
          have : vs = [] := List.length_eq_zero_iff.1 hl.symm
          subst this
          exact .inl ⟨rfl, by rw [rangeC]⟩
        | cons a us iha =>
          intro vs p hl e h1 h2
          obtain ⟨d1, d2⟩ := tdL_cons h1
          obtain ⟨v1, v2⟩ := tw_cons h2
          match vs, hl with
          | b :: vs, hl =>
            have hb : y.Kids[p.length]? = some b := by rw [e, List.getElem?_append_right (Nat.le_refl _), Nat.sub_self]; rfl
            rw [rangeC, hb]
            simp only [Option.bind_some]
            rcases ih a b d1 v1 with ⟨e1, s1⟩ | ⟨e1, s1⟩
            · rw [s1]
              simp only [Option.bind_some, if_true]
              rcases iha vs (p ++ [b]) (by simpa using hl) (by rw [e]; simp) d2 v2 with ⟨e2, s2⟩ | ⟨e2, s2⟩
              · rw [List.length_append] at s2
                exact .inl ⟨by rw [e1, e2], s2⟩
              · rw [List.length_append] at s2
                exact .inr ⟨fun ee => e2 (List.cons.inj ee).2, s2⟩
            · rw [s1]
              exact .inr ⟨fun ee => e1 (List.cons.inj ee).1, rfl⟩
      · rw [if_neg c2]; exact .inr ⟨fun e => c2 (by rw [e]), rfl⟩
    · rw [if_neg c1]; exact .inr ⟨fun e => c1 (by rw [e]), rfl⟩
mutual
theorem twT_of : ∀ t : Tree, tsT t < 9223372036854775808 → twT t = true
  | .mk s k, h => by
    rw [tsT] at h
    have := tlen k
    rw [twT, decide_eq_true (by omega), twL_of k (by omega)]; rfl
theorem twL_of : ∀ l : List Tree, tsL l < 9223372036854775808 → twL l = true
  | [], _ => by rw [twL]
  | x :: r, h => by
    rw [tsL] at h
    rw [twL, twT_of x (by omega), twL_of r (by omega)]; rfl
end
set_option linter.unusedVariables false
theorem copy_eq : ∀ (n : Nat) (t : Tree), tdT t < n → tsT t ≤ 1000000 → repair_copied n t = some t := by
  intro n
  induction n with
  | zero => intro t hd; omega
  | succ n ih =>
    intro t hd hs
    rw [tdT_eq] at hd
    have hlen := tlen t.Kids
    rw [tsT_eq] at hs
    rw [repair_copied, rangeL, if_pos (by omega)]
    suffices H : ∀ (l : List Tree) (i : Nat) (q : List Tree) (k : List Tree → Option Tree), tdL l < n + 1 → q.length + tsL l ≤ 1000000 → rangeC (fun i1 x1 (s1 : List Tree) n1 => (repair_copied n x1).bind fun v1 => (app 32 s1 [v1]).bind fun v2 => n1 v2) l i q k = k (q ++ l) by
      rw [H t.Kids 0 [] _ hd (by rw [List.length_nil]; omega), List.nil_append]
      cases t; rfl
    intro l
    induction l with
    | nil => intro i q k _ _; rw [rangeC, List.append_nil]
    | cons x r ihr =>
      intro i q k hd h1
      obtain ⟨d1, d2⟩ := tdL_cons hd
      have hx := tsT_eq x
      rw [tsL] at h1
      rw [rangeC, ih x d1 (by omega)]
      simp only [Option.bind_some]
      rw [app_ok (by simp only [List.length_cons, List.length_nil]; omega)]
      simp only [Option.bind_some]
      rw [ihr _ _ _ d2 (by rw [List.length_append]; simp only [List.length_cons, List.length_nil]; omega), List.append_assoc]
      rfl
theorem awake_eq (m : Nat) : law22_awake (m + 20) = some true := by rfl
end Go.AM.S22

namespace Go.AM.S22
open Go Go.Proofs Go.AM
set_option linter.unusedVariables false
def allI {α : Type} (ok : Nat → α → Bool) : Nat → List α → Bool
  | _, [] => true
  | i, x :: r => ok i x && allI ok (i + 1) r
theorem chk {α R : Type} {body : Nat → α → Unit → (Unit → Option R) → Option R} {ok : Nat → α → Bool} {f : Option R} : ∀ (l : List α) (i : Nat) (k : Unit → Option R), (∀ j x n1, l[j]? = some x → body (i + j) x () n1 = if ok (i + j) x = true then n1 () else f) →
    rangeC body l i () k = if allI ok i l = true then k () else f
  | [], i, k, _ => by rw [rangeC, allI, if_pos rfl]
  | x :: l, i, k, h => by
    have h0 := h 0 x (fun u => rangeC body l (i + 1) u k) rfl
    rw [Nat.add_zero] at h0
    rw [rangeC, allI]
    rw [show (fun s' => rangeC body l (i + 1) s' k) = (fun u => rangeC body l (i + 1) u k) from rfl, h0]
    cases hk : ok i x with
    | false => simp
    | true =>
      simp only [if_true, Bool.true_and]
      exact chk l (i + 1) k (fun j y n1 hj => by have := h (j + 1) y n1 (by simpa using hj); rwa [show i + (j + 1) = i + 1 + j by omega] at this)
theorem allI_all {α : Type} {ok : α → Bool} : ∀ (l : List α) (i : Nat), allI (fun _ x => ok x) i l = l.all ok
  | [], _ => rfl
  | x :: l, i => by rw [allI, allI_all l, List.all_cons]
def stOk (m s : Int) : Bool := decide (0 ≤ s ∧ s < m)
def rOk (r : List Int) (m : Int) (x : Rule) : Bool := decide (0 ≤ x.Sym ∧ x.Sym < r.length ∧ (x.From.length : Int) = rk r x.Sym) && (stOk m x.To && x.From.all (stOk m))
def fOk (F : List Int) (m : Int) (i : Nat) (x : Int) : Bool := stOk m x && (decide (i = 0) || decide ((F[i - 1]?).getD 0 < x))
def aV (r : List Int) (a : Automaton) : Bool := vA r && (decide (0 ≤ a.States ∧ a.States ≤ 300 ∧ (a.Rules.length : Int) ≤ 20000) && (allI (fOk a.Final a.States) 0 a.Final && a.Rules.all (rOk r a.States)))
structure AW (a : Automaton) : Prop where
  fin : a.Final.length < 9223372036854775808
  rul : a.Rules.length < 9223372036854775808
  frm : ∀ x ∈ a.Rules, x.From.length < 9223372036854775808
theorem idx_prev {F : List Int} {i : Nat} {x : Int} (h : F[i]? = some x) (hi : 0 < i) (hl : F.length < 9223372036854775808) : idx F (w64 ((i : Int) - 1)) = some ((F[i - 1]?).getD 0) := by
  have hlt := (List.getElem?_eq_some_iff.1 h).1
  rw [w64_eq (by omega) (by omega)]
  unfold idx
  rw [if_pos (by omega), show ((i : Int) - 1).toNat = i - 1 by omega, List.getElem?_eq_getElem (by omega)]
  rfl
theorem auto_eq (r : List Int) (a : Automaton) (w : AW a) : auto_Valid ⟨r⟩ a = some (aV r a) := by
  unfold auto_Valid aV
  rw [hvA]
  simp only [Option.bind_some]
  cases vA r with
  | false => rfl
  | true =>
    simp only [if_true, Bool.true_and]
    by_cases c1 : a.States < 0
    · rw [if_pos c1, decide_eq_false (by omega)]; rfl
    rw [if_neg c1]
    by_cases c2 : 300 < a.States
    · rw [if_pos c2, decide_eq_false (by omega)]; rfl
    rw [if_neg c2]
    by_cases c3 : 20000 < (a.Rules.length : Int)
    · rw [if_pos c3, decide_eq_false (by omega)]; rfl
    rw [if_neg c3, decide_eq_true (by omega), Bool.true_and]
    rw [rangeL, if_pos w.fin]
    rw [chk (ok := fOk a.Final a.States) (f := some false) a.Final 0 _ (fun j x n1 hj => by
      rw [Nat.zero_add]
      unfold jn fOk stOk
      dsimp only
      by_cases d1 : 0 ≤ x
      · rw [if_pos d1]
        by_cases d2 : x < a.States
        · rw [decide_eq_true d2, if_pos rfl, decide_eq_true (⟨d1, d2⟩ : 0 ≤ x ∧ x < a.States), Bool.true_and]
          by_cases d3 : 0 < (j : Int)
          · rw [if_pos d3, idx_prev hj (by omega) w.fin, decide_eq_false (show ¬ j = 0 by omega), Bool.false_or]
            simp only [Option.bind_some]
            by_cases d4 : x ≤ (a.Final[j - 1]?).getD 0
            · rw [if_pos d4, decide_eq_false (by omega)]; rfl
            · rw [if_neg d4, decide_eq_true (by omega)]; rfl
          · rw [if_neg d3, decide_eq_true (show j = 0 by omega)]; rfl
        · rw [decide_eq_false d2, decide_eq_false (show ¬ (0 ≤ x ∧ x < a.States) from fun h => d2 h.2)]; rfl
      · rw [if_neg d1, decide_eq_false (show ¬ (0 ≤ x ∧ x < a.States) from fun h => d1 h.1)]; rfl)]
    cases allI (fOk a.Final a.States) 0 a.Final with
    | false => rfl
    | true =>
      simp only [if_true, Bool.true_and]
      rw [rangeL, if_pos w.rul]
      rw [chk (ok := fun _ x => rOk r a.States x) (f := some false) a.Rules 0 _ (fun j x n1 hj => by
        have hx := List.mem_of_getElem? hj
        unfold rOk
        by_cases d1 : x.Sym < 0
        · rw [if_pos d1, decide_eq_false (fun h => by omega)]; rfl
        rw [if_neg d1]
        by_cases d2 : (r.length : Int) ≤ x.Sym
        · rw [if_pos d2, decide_eq_false (fun h => by omega)]; rfl
        rw [if_neg d2, rk_get (by omega) (by omega)]
        simp only [Option.bind_some]
        by_cases d3 : (x.From.length : Int) = rk r x.Sym
        · rw [if_pos d3, decide_eq_true (show 0 ≤ x.Sym ∧ x.Sym < (r.length : Int) ∧ (x.From.length : Int) = rk r x.Sym from ⟨by omega, by omega, d3⟩), Bool.true_and]
          unfold jn
          dsimp only
          have hfr : rangeL x.From () (fun k4 i4 x4 (s4 : Unit) n4 => if 0 ≤ x4 then (if decide (x4 < a.States) = true then n4 () else some false) else (if false = true then n4 () else some false)) (fun s4 => n1 ()) = if x.From.all (stOk a.States) = true then n1 () else some false := by
            rw [rangeL, if_pos (w.frm x hx)]
            rw [chk (ok := fun _ s => stOk a.States s) (f := some false) x.From 0 _ (fun j y n1 _ => by
              unfold stOk
              by_cases e1 : 0 ≤ y
              · by_cases e2 : y < a.States
                · simp [e1, e2]
                · simp [e1, e2]
              · simp [e1]), allI_all]
          by_cases d4 : 0 ≤ x.To
          · rw [if_pos d4]
            by_cases d5 : x.To < a.States
            · rw [decide_eq_true d5, if_pos rfl]
              rw [show stOk a.States x.To = true from decide_eq_true ⟨d4, d5⟩, Bool.true_and]
              exact hfr
            · rw [decide_eq_false d5, show stOk a.States x.To = false from decide_eq_false (fun h => d5 h.2)]; rfl
          · rw [if_neg d4, show stOk a.States x.To = false from decide_eq_false (fun h => d4 h.1)]; rfl
        · rw [if_neg d3, decide_eq_false (show ¬ (0 ≤ x.Sym ∧ x.Sym < (r.length : Int) ∧ (x.From.length : Int) = rk r x.Sym) from fun h => d3 h.2.2)]; rfl), allI_all]
      cases a.Rules.all (rOk r a.States) <;> rfl
theorem rauto_eq (r : List Int) (a : Automaton) (w : AW a) : ref03_Valid ⟨r⟩ a = some (aV r a) := by
  unfold ref03_Valid aV
  rw [rvA]
  simp only [Option.bind_some]
  cases vA r with
  | false => rfl
  | true =>
    simp only [if_true, Bool.true_and]
    by_cases c1 : a.States < 0
    · rw [if_pos c1, decide_eq_false (by omega)]; rfl
    rw [if_neg c1]
    by_cases c2 : 300 < a.States
    · rw [if_pos c2, decide_eq_false (by omega)]; rfl
    rw [if_neg c2]
    by_cases c3 : 20000 < (a.Rules.length : Int)
    · rw [if_pos c3, decide_eq_false (by omega)]; rfl
    rw [if_neg c3, decide_eq_true (by omega), Bool.true_and]
    rw [rangeL, if_pos w.fin]
    rw [chk (ok := fOk a.Final a.States) (f := some false) a.Final 0 _ (fun j x n1 hj => by
      rw [Nat.zero_add]
      unfold fOk stOk
      by_cases d1 : x < 0
      · rw [if_pos d1, decide_eq_false (show ¬ (0 ≤ x ∧ x < a.States) from fun h => by omega)]; rfl
      rw [if_neg d1]
      by_cases d2 : a.States ≤ x
      · rw [if_pos d2, decide_eq_false (show ¬ (0 ≤ x ∧ x < a.States) from fun h => by omega)]; rfl
      rw [if_neg d2, decide_eq_true (show 0 ≤ x ∧ x < a.States by omega), Bool.true_and]
      by_cases d3 : 0 < (j : Int)
      · rw [if_pos d3, idx_prev hj (by omega) w.fin, decide_eq_false (show ¬ j = 0 by omega), Bool.false_or]
        simp only [Option.bind_some]
        by_cases d4 : x ≤ (a.Final[j - 1]?).getD 0
        · rw [if_pos d4, decide_eq_false (by omega)]; rfl
        · rw [if_neg d4, decide_eq_true (by omega)]; rfl
      · rw [if_neg d3, decide_eq_true (show j = 0 by omega)]; rfl)]
    cases allI (fOk a.Final a.States) 0 a.Final with
    | false => rfl
    | true =>
      simp only [if_true, Bool.true_and]
      rw [rangeL, if_pos w.rul]
      rw [chk (ok := fun _ x => rOk r a.States x) (f := some false) a.Rules 0 _ (fun j x n1 hj => by
        have hx := List.mem_of_getElem? hj
        unfold rOk
        by_cases d1 : x.Sym < 0
        · rw [if_pos d1, decide_eq_false (fun h => by omega)]; rfl
        rw [if_neg d1]
        by_cases d2 : (r.length : Int) ≤ x.Sym
        · rw [if_pos d2, decide_eq_false (fun h => by omega)]; rfl
        rw [if_neg d2, rk_get (by omega) (by omega)]
        simp only [Option.bind_some]
        by_cases d3 : (x.From.length : Int) = rk r x.Sym
        · rw [if_pos d3, decide_eq_true (show 0 ≤ x.Sym ∧ x.Sym < (r.length : Int) ∧ (x.From.length : Int) = rk r x.Sym from ⟨by omega, by omega, d3⟩), Bool.true_and]
          by_cases d4 : x.To < 0
          · rw [if_pos d4, show stOk a.States x.To = false from decide_eq_false (fun h => by omega)]; rfl
          rw [if_neg d4]
          by_cases d5 : a.States ≤ x.To
          · rw [if_pos d5, show stOk a.States x.To = false from decide_eq_false (fun h => by omega)]; rfl
          rw [if_neg d5, show stOk a.States x.To = true from decide_eq_true ⟨by omega, by omega⟩, Bool.true_and, rangeL, if_pos (w.frm x hx)]
          rw [chk (ok := fun _ s => stOk a.States s) (f := some false) x.From 0 _ (fun j y n1 _ => by
            unfold stOk
            by_cases e1 : y < 0
            · rw [if_pos e1, decide_eq_false (fun h => by omega)]; rfl
            rw [if_neg e1]
            by_cases e2 : a.States ≤ y
            · rw [if_pos e2, decide_eq_false (fun h => by omega)]; rfl
            rw [if_neg e2, decide_eq_true ⟨by omega, by omega⟩]; rfl), allI_all]
        · rw [if_neg d3, decide_eq_false (show ¬ (0 ≤ x.Sym ∧ x.Sym < (r.length : Int) ∧ (x.From.length : Int) = rk r x.Sym) from fun h => d3 h.2.2)]; rfl), allI_all]
      cases a.Rules.all (rOk r a.States) <;> rfl
def fewB (r : List Int) (a : Automaton) (t : Tree) : Bool := decide ((tsT t : Int) ≤ 80) && (a.Rules.all (fun x => decide (x.From.length ≤ 30)) && (decide (r.length ≤ 60) && ((decide (a.States ≤ 40) || decide (300 < a.States)) && (decide (a.Rules.length ≤ 400) && decide (a.Final.length ≤ 400)))))
theorem few_eq {n : Nat} (r : List Int) (a : Automaton) (t : Tree) (w : AW a) (hd : tdT t < n) (hw : twT t = true) : law22_few n ⟨r⟩ a [t] = some (fewB r a t) := by
  unfold law22_few fewB
  rw [rangeL, if_pos (by simp only [List.length_cons, List.length_nil]; omega)]
  simp only [rangeC]
  rw [tfew_eq hd hw (by omega) (by omega)]
  simp only [Option.bind_some]
  cases decide ((tsT t : Int) ≤ 80) with
  | false => rfl
  | true =>
    simp only [if_true, Bool.true_and]
    rw [rangeL, if_pos w.rul]
    rw [chk (ok := fun _ x => decide (x.From.length ≤ 30)) (f := some false) a.Rules 0 _ (fun j x n1 hj => by
      by_cases e : 30 < (x.From.length : Int)
      · rw [if_pos e, decide_eq_false (by omega)]; rfl
      · rw [if_neg e, decide_eq_true (by omega)]; rfl), allI_all]
    cases a.Rules.all (fun x => decide (x.From.length ≤ 30)) with
    | false => rfl
    | true =>
      simp only [if_true, Bool.true_and]
      by_cases c1 : (r.length : Int) ≤ 60
      · rw [if_pos c1, decide_eq_true (show r.length ≤ 60 by omega), Bool.true_and]
        have e3 : (if (a.Rules.length : Int) ≤ 400 then some (decide ((a.Final.length : Int) ≤ 400)) else some false) = some (decide (a.Rules.length ≤ 400) && decide (a.Final.length ≤ 400)) := by
          by_cases c3 : (a.Rules.length : Int) ≤ 400
          · rw [if_pos c3, decide_eq_true (show a.Rules.length ≤ 400 by omega), Bool.true_and]
            congr 1
            by_cases c4 : a.Final.length ≤ 400
            · rw [decide_eq_true (by omega), decide_eq_true c4]
            · rw [decide_eq_false (by omega), decide_eq_false c4]
          · rw [if_neg c3, decide_eq_false (show ¬ a.Rules.length ≤ 400 by omega)]; rfl
        by_cases c2 : a.States ≤ 40
        · rw [if_pos c2, decide_eq_true c2, Bool.true_or, Bool.true_and]; exact e3
        · rw [if_neg c2, decide_eq_false c2, Bool.false_or]
          by_cases c4 : 300 < a.States
          · rw [if_pos c4, decide_eq_true c4, Bool.true_and]; exact e3
          · rw [if_neg c4, decide_eq_false c4]; rfl
      · rw [if_neg c1, decide_eq_false (show ¬ r.length ≤ 60 by omega)]; rfl
end Go.AM.S22

namespace Go.AM.S22
open Go Go.Proofs Go.AM
set_option linter.unusedVariables false
theorem td_mem : ∀ {l : List Tree} {x : Tree}, x ∈ l → tdT x + 1 ≤ tdL l
  | [], _, h => by cases h
  | y :: l, x, h => by
    rw [tdL]
    rcases List.mem_cons.1 h with rfl | h
    · omega
    · have := td_mem h; omega
theorem ts_mem : ∀ {l : List Tree} {x : Tree}, x ∈ l → tsT x ≤ tsL l
  | [], _, h => by cases h
  | y :: l, x, h => by
    rw [tsL]
    rcases List.mem_cons.1 h with rfl | h
    · omega
    · have := ts_mem h; omega
theorem lexF_cong {f g : Tree → Tree → Int} : ∀ (us vs : List Tree), (∀ a, a ∈ us → ∀ b, f a b = g a b) → lexF f us vs = lexF g us vs
  | [], [], _ => by rw [lexF, lexF]
  | [], _ :: _, _ => by rw [lexF, lexF]
  | _ :: _, [], _ => by rw [lexF, lexF]
  | a :: us, b :: vs, h => by rw [lexF, lexF, h a (by simp), lexF_cong us vs (fun x hx => h x (List.mem_cons_of_mem _ hx))]
theorem cmpF_stab : ∀ (n m : Nat) (x y : Tree), tdT x < n → tdT x < m → cmpF n x y = cmpF m x y
  | 0, _, _, _, h, _ => by omega
  | n + 1, 0, _, _, _, h => by omega
  | n + 1, m + 1, x, y, h1, h2 => by
    rw [cmpF, cmpF, lexF_cong x.Kids y.Kids (g := cmpF m) (fun a ha b => by
      have := td_mem ha
      rw [tdT_eq] at h1 h2
      exact cmpF_stab n m a b (by omega) (by omega))]
def cT (x y : Tree) : Int := cmpF (tdT x + 1) x y
theorem cT_eq {n : Nat} {x y : Tree} (h : tdT x < n) : cmpF n x y = cT x y := cmpF_stab n _ x y h (by omega)
def zc : ref22_choice := ⟨false, 0, ⟨0, []⟩⟩
def lessB (c d : ref22_choice) : Bool := if d.some = true then (if c.n = d.n then decide (cT c.t d.t < 0) else decide (c.n < d.n)) else true
theorem less_eq {n : Nat} {c d : ref22_choice} (h1 : tdT c.t + 1 < n) (h2 : d.some = true → tdT d.t + 1 < n ∧ tsT d.t ≤ 100000) (h3 : tsT c.t ≤ 100000) : ref22_choice_less n c d = some (lessB c d) := by
  unfold ref22_choice_less lessB
  by_cases e : d.some = true
  · rw [if_pos e, if_pos e]
    by_cases e2 : c.n = d.n
    · rw [if_pos e2, if_pos e2, rcompare_eq n _ _ h1 (h2 e).1 h3 (h2 e).2, cT_eq (by omega)]; rfl
    · rw [if_neg e2, if_neg e2]
  · rw [if_neg e, if_neg e]
def rf : List (List ref22_choice) → List Int → Bool × Int × List Tree → Bool × Int × List Tree
  | k :: ks, x :: xs, s => rf ks xs (s.1 && ((k[x.toNat]?).getD zc).some, s.2.1 + ((k[x.toNat]?).getD zc).n, s.2.2 ++ [((k[x.toNat]?).getD zc).t])
  | _, _, s => s
def s0 (x : Rule) (sym : Int) : Bool × Int × List Tree := (true, (if x.Sym = sym then 0 else 1), [])
def mkC (x : Rule) (s : Bool × Int × List Tree) : ref22_choice := ⟨true, s.2.1, ⟨x.Sym, s.2.2⟩⟩
def stepR (kids : List (List ref22_choice)) (sym : Int) (row : List ref22_choice) (x : Rule) : List ref22_choice :=
  if x.From.length = kids.length then
    (if (rf kids x.From (s0 x sym)).1 = true then
      (if lessB (mkC x (rf kids x.From (s0 x sym))) ((row[x.To.toNat]?).getD zc) = true then row.set x.To.toNat (mkC x (rf kids x.From (s0 x sym))) else row)
    else row)
  else row
def rowOf (a : Automaton) (sym : Int) (kids : List (List ref22_choice)) : List ref22_choice := a.Rules.foldl (stepR kids sym) (List.replicate a.States.toNat zc)
mutual
def chT (a : Automaton) : Tree → List ref22_choice
  | .mk s k => rowOf a s (chL a k)
def chL (a : Automaton) : List Tree → List (List ref22_choice)
  | [] => []
  | x :: r => chT a x :: chL a r
end
theorem chT_eq (a : Automaton) (t : Tree) : chT a t = rowOf a t.Sym (chL a t.Kids) := by cases t; rw [chT]
theorem chL_len (a : Automaton) : ∀ l, (chL a l).length = l.length
  | [] => by rw [chL]; rfl
  | x :: r => by rw [chL, List.length_cons, List.length_cons, chL_len a r]
structure GC (t : Tree) (c : ref22_choice) : Prop where
  no : c.some = false → c = zc
  yes : c.some = true → tsT c.t = tsT t ∧ tdT c.t = tdT t ∧ 0 ≤ c.n ∧ c.n ≤ tsT t
theorem GC.zc (t : Tree) : GC t zc := ⟨fun _ => rfl, fun h => by cases h⟩
theorem GC.n {t : Tree} {c : ref22_choice} (h : GC t c) : 0 ≤ c.n ∧ c.n ≤ tsT t := by
  cases e : c.some with
  | false => rw [h.no e]; exact ⟨Int.le_refl _, Int.natCast_nonneg _⟩
  | true => exact (h.yes e).2.2
def GR (m : Nat) (t : Tree) (row : List ref22_choice) : Prop := row.length = m ∧ ∀ c ∈ row, GC t c
def GK (m : Nat) : List (List ref22_choice) → List Tree → Prop
  | [], [] => True
  | r :: rs, t :: ts => GR m t r ∧ GK m rs ts
  | _, _ => False
theorem GR.get {m : Nat} {t : Tree} {row : List ref22_choice} (h : GR m t row) (i : Nat) : GC t ((row[i]?).getD zc) := by
  cases e : row[i]? with
  | none => exact GC.zc t
  | some c => exact h.2 c (List.mem_of_getElem? e)
theorem GK.len {m : Nat} : ∀ {ks : List (List ref22_choice)} {kl : List Tree}, GK m ks kl → ks.length = kl.length
  | [], [], _ => rfl
  | _ :: _, _ :: _, h => by rw [List.length_cons, List.length_cons, GK.len h.2]
  | [], _ :: _, h => h.elim
  | _ :: _, [], h => h.elim
theorem tsL_snoc (l : List Tree) (x : Tree) : tsL (l ++ [x]) = tsL l + tsT x := by
  induction l with
  | nil => simp [tsL]
  | cons a l ih => rw [List.cons_append, tsL, tsL, ih]; omega
theorem tdL_snoc (l : List Tree) (x : Tree) : tdL (l ++ [x]) = max (tdL l) (tdT x + 1) := by
  induction l with
  | nil => simp [tdL]
  | cons a l ih => rw [List.cons_append, tdL, tdL, ih]; omega
theorem rf_false : ∀ (ks : List (List ref22_choice)) (xs : List Int) (s : Bool × Int × List Tree), s.1 = false → (rf ks xs s).1 = false
  | [], _, s, h => by rw [rf]; exact h; exact fun _ _ _ _ h => by cases h
  | _ :: _, [], s, h => by rw [rf]; exact h; exact fun _ _ _ _ _ h => by cases h
  | k :: ks, x :: xs, s, h => by rw [rf]; exact rf_false ks xs _ (by rw [h]; rfl)
theorem rf_n {m : Nat} : ∀ (ks : List (List ref22_choice)) (kl : List Tree) (xs : List Int) (s : Bool × Int × List Tree), GK m ks kl → s.2.1 ≤ (rf ks xs s).2.1 ∧ (rf ks xs s).2.1 ≤ s.2.1 + tsL kl
  | [], [], xs, s, h => by
    have : rf [] xs s = s := by rw [rf]; exact fun _ _ _ _ h => by cases h
    rw [this, tsL]; omega
  | _ :: _, [], _, _, h => h.elim
  | [], _ :: _, _, _, h => h.elim
  | k :: ks, t :: kl, [], s, h => by
    have : rf (k :: ks) [] s = s := by rw [rf]; exact fun _ _ _ _ _ h => by cases h
    rw [this]; omega
  | k :: ks, t :: kl, x :: xs, s, h => by
    have := rf_n ks kl xs (s.1 && ((k[x.toNat]?).getD zc).some, s.2.1 + ((k[x.toNat]?).getD zc).n, s.2.2 ++ [((k[x.toNat]?).getD zc).t]) h.2
    have hn := (h.1.get x.toNat).n
    rw [rf, tsL]
    simp only at this
    omega
theorem rf_ok {m : Nat} : ∀ (ks : List (List ref22_choice)) (kl : List Tree) (xs : List Int) (s : Bool × Int × List Tree), GK m ks kl → xs.length = ks.length → (rf ks xs s).1 = true →
    tsL (rf ks xs s).2.2 = tsL s.2.2 + tsL kl ∧ tdL (rf ks xs s).2.2 = max (tdL s.2.2) (tdL kl)
  | [], [], xs, s, h, _, _ => by
    have : rf [] xs s = s := by rw [rf]; exact fun _ _ _ _ h => by cases h
    rw [this, tsL, tdL]; omega
  | _ :: _, [], _, _, h, _, _ => h.elim
  | [], _ :: _, _, _, h, _, _ => h.elim
  | k :: ks, t :: kl, [], s, h, hl, _ => by simp at hl
  | k :: ks, t :: kl, x :: xs, s, h, hl, h1 => by
    rw [rf] at h1 ⊢
    have ih := rf_ok ks kl xs _ h.2 (by simpa using hl) h1
    have hs : (s.1 && ((k[x.toNat]?).getD zc).some) = true := by
      cases e : (s.1 && ((k[x.toNat]?).getD zc).some) with
      | true => rfl
      | false => rw [rf_false ks xs _ e] at h1; cases h1
    rw [Bool.and_eq_true] at hs
    obtain ⟨q1, q2, _⟩ := (h.1.get x.toNat).yes hs.2
    rw [ih.1, ih.2, tsL_snoc, tdL_snoc, q1, q2, tsL, tdL]
    omega
theorem foldC {α S R : Type} {body : Nat → α → S → (S → Option R) → Option R} {step : S → α → S} (I : S → Prop) : ∀ (l : List α) (i : Nat) (s : S) (k : S → Option R), I s → (∀ j x s n1, x ∈ l → I s → body j x s n1 = n1 (step s x)) → (∀ x s, x ∈ l → I s → I (step s x)) →
    rangeC body l i s k = k (l.foldl step s) ∧ I (l.foldl step s)
  | [], i, s, k, h, _, _ => ⟨by rw [rangeC]; rfl, h⟩
  | x :: l, i, s, k, h, hb, hi => by
    have ih := foldC I l (i + 1) (step s x) k (hi x s (by simp) h) (fun j y s n1 hy => hb j y s n1 (List.mem_cons_of_mem _ hy)) (fun y s hy => hi y s (List.mem_cons_of_mem _ hy))
    exact ⟨by rw [rangeC, hb i x s _ (by simp) h, List.foldl_cons]; exact ih.1, ih.2⟩
structure OKa (a : Automaton) : Prop where
  st : 0 ≤ a.States ∧ a.States ≤ 300
  rul : a.Rules.length ≤ 400
  fin : a.Final.length ≤ 400
  frm : ∀ x ∈ a.Rules, x.From.length ≤ 30
  to : ∀ x ∈ a.Rules, 0 ≤ x.To ∧ x.To < a.States
  from' : ∀ x ∈ a.Rules, ∀ s ∈ x.From, 0 ≤ s ∧ s < a.States
  fins : ∀ s ∈ a.Final, 0 ≤ s ∧ s < a.States
theorem idx_get {m : Nat} {α : Type} {row : List α} {z : α} {x : Int} (hr : row.length = m) (h0 : 0 ≤ x) (h1 : x < (m : Int)) : idx row x = some ((row[x.toNat]?).getD z) := by
  unfold idx
  rw [if_pos h0, List.getElem?_eq_getElem (by omega)]; rfl
theorem ref_inner {m : Nat} {R : Type} (rows : List (List ref22_choice)) : ∀ (ks : List (List ref22_choice)) (kl : List Tree) (xs : List Int) (p : Nat) (s : Bool × Int × List Tree) (k : Bool × Int × List Tree → Option R), GK m ks kl → (∀ i, ks[i]? = rows[p + i]?) → xs.length = ks.length → (∀ x ∈ xs, 0 ≤ x ∧ x < (m : Int)) →
    0 ≤ s.2.1 → s.2.1 + tsL kl ≤ 1000 → s.2.2.length + ks.length ≤ 1000 →
    rangeC (fun i7 (x7 : Int) (s7 : Bool × Int × (List Tree)) n7 => (rows[i7]?).bind fun v5 => (idx v5 x7).bind fun v6 => if s7.1 = true then (app 32 s7.2.2 [v6.t]).bind fun v7 => n7 (v6.some, w64 (s7.2.1 + v6.n), v7) else (app 32 s7.2.2 [v6.t]).bind fun v8 => n7 (false, w64 (s7.2.1 + v6.n), v8)) xs p s k = k (rf ks xs s)
  | [], [], [], p, s, k, _, _, _, _, _, _, _ => by
    have : rf [] [] s = s := by rw [rf]; exact fun _ _ _ _ h => by cases h
    rw [rangeC, this]
  | _ :: _, [], _, _, _, _, h, _, _, _, _, _, _ => h.elim
  | [], _ :: _, _, _, _, _, h, _, _, _, _, _, _ => h.elim
  | [], [], _ :: _, _, _, _, _, _, h, _, _, _, _ => by simp at h
  | _ :: _, _ :: _, [], _, _, _, _, _, h, _, _, _, _ => by simp at h
  | r :: ks, t :: kl, x :: xs, p, s, k, hg, hr, hl, hx, h0, h1, h2 => by
    have hp := hr 0
    simp only [List.getElem?_cons_zero, Nat.add_zero] at hp
    have hxx := hx x (by simp)
    have hn := (hg.1.get x.toNat).n
    rw [tsL] at h1
    rw [rangeC, ← hp]
    simp only [Option.bind_some]
    rw [idx_get (z := zc) hg.1.1 hxx.1 hxx.2]
    simp only [Option.bind_some]
    rw [List.length_cons] at h2
    rw [app_ok (by simp only [List.length_cons, List.length_nil]; omega)]
    simp only [Option.bind_some]
    rw [w64_eq (by omega) (by omega)]
    have ih := fun b => ref_inner rows ks kl xs (p + 1) (b, s.2.1 + ((r[x.toNat]?).getD zc).n, s.2.2 ++ [((r[x.toNat]?).getD zc).t]) k hg.2 (fun i => by have := hr (i + 1); rwa [List.getElem?_cons_succ, show p + (i + 1) = p + 1 + i by omega] at this) (by simpa using hl) (fun y hy => hx y (List.mem_cons_of_mem _ hy)) (by simp only; omega) (by simp only; omega) (by simp only [List.length_append, List.length_cons, List.length_nil]; omega)
    rw [rf]
    by_cases e : s.1 = true
    · rw [if_pos e, ih, e, Bool.true_and]
    · rw [if_neg e, ih, eq_false_of_ne_true e, Bool.false_and]
theorem step_GR {m : Nat} {t : Tree} {ks : List (List ref22_choice)} (hk : GK m ks t.Kids) {row : List ref22_choice} (h : GR m t row) (x : Rule) : GR m t (stepR ks t.Sym row x) := by
  unfold stepR
  split
  · rename_i hl
    split
    · rename_i hs
      split
      · refine ⟨by rw [List.length_set]; exact h.1, fun c hc => ?_⟩
        rcases List.mem_or_eq_of_mem_set hc with hc | rfl
        · exact h.2 c hc
        · refine ⟨fun h => (by cases h), fun _ => ?_⟩
          obtain ⟨q1, q2⟩ := rf_ok ks t.Kids x.From (s0 x t.Sym) hk hl hs
          have q3 := rf_n ks t.Kids x.From (s0 x t.Sym) hk
          have e1 : tsL (s0 x t.Sym).2.2 = 0 := by unfold s0; rw [tsL]
          have e2 : tdL (s0 x t.Sym).2.2 = 0 := by unfold s0; rw [tdL]
          have e3 : 0 ≤ (s0 x t.Sym).2.1 ∧ (s0 x t.Sym).2.1 ≤ 1 := by unfold s0; simp only []; split <;> omega
          unfold mkC
          simp only []
          rw [tsT_eq t, tdT_eq t, tsT, tdT, q1, q2, e1, e2]
          omega
      · exact h
    · exact h
  · exact h
theorem row_GR {a : Automaton} {t : Tree} {ks : List (List ref22_choice)} (hk : GK a.States.toNat ks t.Kids) : GR a.States.toNat t (rowOf a t.Sym ks) := by
  unfold rowOf
  have : ∀ (l : List Rule) (row : List ref22_choice), GR a.States.toNat t row → GR a.States.toNat t (l.foldl (stepR ks t.Sym) row) := by
    intro l
    induction l with
    | nil => intro row h; exact h
    | cons x l ih => intro row h; exact ih _ (step_GR hk h x)
  exact this _ _ ⟨List.length_replicate .., fun c hc => by rw [List.eq_of_mem_replicate hc]; exact GC.zc t⟩
mutual
theorem chT_GR (a : Automaton) : ∀ t : Tree, GR a.States.toNat t (chT a t)
  | .mk s k => by rw [chT]; exact row_GR (t := .mk s k) (chL_GK a k)
theorem chL_GK (a : Automaton) : ∀ l : List Tree, GK a.States.toNat (chL a l) l
  | [] => by rw [chL]; trivial
  | x :: r => by rw [chL]; exact ⟨chT_GR a x, chL_GK a r⟩
end
theorem ref_eq {a : Automaton} (ha : OKa a) : ∀ (n : Nat) (t : Tree), tdT t + 2 < n → tsT t ≤ 80 → ref22_choices n a t = some (chT a t) := by
  intro n
  induction n with
  | zero => intro t h; omega
  | succ n ih =>
    intro t hd hs
    have hkl := tlen t.Kids
    have hts := tsT_eq t
    have htd := tdT_eq t
    rw [ref22_choices, rangeL, if_pos (by omega)]
    have hkids : ∀ (l : List Tree) (i : Nat) (q : List (List ref22_choice)) (k : List (List ref22_choice) → Option (List ref22_choice)), (∀ x ∈ l, x ∈ t.Kids) → q.length + l.length ≤ 1000 → rangeC (fun i1 x1 (s1 : (List (List ref22_choice))) n1 => (ref22_choices n a x1).bind fun v15 => (app 24 s1 [v15]).bind fun v16 => n1 v16) l i q k = k (q ++ chL a l) := by
      intro l
      induction l with
      | nil => intro i q k _ _; rw [rangeC, chL, List.append_nil]
      | cons x l ihl =>
        intro i q k hm hq
        have hx := td_mem (hm x (by simp))
        have hx2 := ts_mem (hm x (by simp))
        rw [List.length_cons] at hq
        rw [rangeC, ih x (by omega) (by omega)]
        simp only [Option.bind_some]
        rw [app_ok (by simp only [List.length_cons, List.length_nil]; omega)]
        simp only [Option.bind_some]
        rw [ihl _ _ _ (fun y hy => hm y (List.mem_cons_of_mem _ hy)) (by simp only [List.length_append, List.length_cons, List.length_nil]; omega), chL]
        simp
    rw [hkids t.Kids 0 [] _ (fun _ h => h) (by simp only [List.length_nil]; omega), List.nil_append]
    have hst := ha.st
    have hmz : mkz 48 a.States a.States zc = some (List.replicate a.States.toNat zc) := by unfold mkz; rw [if_pos (by omega)]
    show (mkz 48 a.States a.States zc).bind _ = _
    rw [hmz]
    simp only [Option.bind_some]
    have hrl := ha.rul
    rw [rangeL, if_pos (by omega), chT_eq]
    have hK := chL_GK a t.Kids
    have hKl := chL_len a t.Kids
    unfold rowOf
    have hG : GR a.States.toNat t (a.Rules.foldl (stepR (chL a t.Kids) t.Sym) (List.replicate a.States.toNat zc)) := row_GR (a := a) hK
    refine (foldC (step := stepR (chL a t.Kids) t.Sym) (GR a.States.toNat t) a.Rules 0 _ _ ⟨List.length_replicate .., fun c hc => (by rw [List.eq_of_mem_replicate hc]; exact GC.zc t)⟩ ?_ (fun x s _ h => step_GR hK h x)).1.trans (by
      rw [show tkM a.States.toNat (a.Rules.foldl (stepR (chL a t.Kids) t.Sym) (List.replicate a.States.toNat zc)) = some (a.Rules.foldl (stepR (chL a t.Kids) t.Sym) (List.replicate a.States.toNat zc)) by
        unfold tkM
        rw [if_pos (by rw [hG.1]; exact Nat.le_refl _), List.take_of_length_le (by rw [hG.1]; exact Nat.le_refl _)]]
      rfl)
    intro j x row n1 hx hg
    have hto := ha.to x hx
    have hfr := ha.frm x hx
    have hff := ha.from' x hx
    unfold stepR
    by_cases c1 : (x.From.length : Int) = (t.Kids.length : Int)
    · have c1' : x.From.length = (chL a t.Kids).length := by omega
      rw [if_pos c1, if_pos c1']
      have core : ∀ (w : Int) (hw : w = 0 ∨ w = 1), (s0 x t.Sym).2.1 = w → rangeL x.From (true, w, ([] : List Tree)) (fun k7 i7 x7 (s7 : Bool × Int × (List Tree)) n7 => ((chL a t.Kids)[i7]?).bind fun v5 => (idx v5 x7).bind fun v6 => if s7.1 = true then (app 32 s7.2.2 [v6.t]).bind fun v7 => n7 (v6.some, w64 (s7.2.1 + v6.n), v7) else (app 32 s7.2.2 [v6.t]).bind fun v8 => n7 (false, w64 (s7.2.1 + v6.n), v8)) (fun s7 =>
          if s7.1 = true then
            (idxM ((a.States).toNat) row x.To).bind fun v3 =>
            (ref22_choice_less n (ref22_choice.mk true s7.2.1 (Tree.mk x.Sym s7.2.2)) v3).bind fun v4 =>
            if v4 = true then
              n1 (List.set row ((x.To).toNat) (ref22_choice.mk true s7.2.1 (Tree.mk x.Sym s7.2.2)))
            else
              n1 row
          else
            n1 row) = n1 (if (rf (chL a t.Kids) x.From (s0 x t.Sym)).1 = true then
      (if lessB (mkC x (rf (chL a t.Kids) x.From (s0 x t.Sym))) ((row[x.To.toNat]?).getD zc) = true then row.set x.To.toNat (mkC x (rf (chL a t.Kids) x.From (s0 x t.Sym))) else row)
    else row) := by
        intro w hw hsw
        have hse : s0 x t.Sym = (true, w, []) := by rw [← hsw]; rfl
        rw [rangeL, if_pos (by omega), ref_inner (m := a.States.toNat) (chL a t.Kids) (chL a t.Kids) t.Kids x.From 0 (true, w, []) _ hK (fun i => by rw [Nat.zero_add]) c1' (fun y hy => by have := hff y hy; omega) (by rcases hw with h | h <;> simp only <;> omega) (by rcases hw with h | h <;> simp only <;> omega) (by simp only [List.length_nil]; omega), ← hse]
        by_cases c2 : (rf (chL a t.Kids) x.From (s0 x t.Sym)).1 = true
        · rw [if_pos c2, if_pos c2]
          have hrow : idxM a.States.toNat row x.To = some ((row[x.To.toNat]?).getD zc) := by
            unfold idxM
            rw [if_pos (by omega), List.getElem?_eq_getElem (by rw [hg.1]; omega)]; rfl
          rw [hrow]
          simp only [Option.bind_some]
          have hgc := hg.get x.To.toNat
          obtain ⟨q1, q2⟩ := rf_ok _ _ _ _ hK c1' c2
          rw [hse] at q1 q2
          rw [← hse] at q1 q2
          have e1 : tsL (s0 x t.Sym).2.2 = 0 := by unfold s0; rw [tsL]
          have e2 : tdL (s0 x t.Sym).2.2 = 0 := by unfold s0; rw [tdL]
          rw [e1] at q1; rw [e2] at q2
          have hl := less_eq (n := n) (c := mkC x (rf (chL a t.Kids) x.From (s0 x t.Sym))) (d := (row[x.To.toNat]?).getD zc) (by unfold mkC; simp only []; rw [tdT, q2]; omega) (fun h => by have := hgc.yes h; omega) (by unfold mkC; simp only []; rw [tsT, q1]; omega)
          unfold mkC at hl ⊢
          rw [hl]
          simp only [Option.bind_some]
          split <;> rfl
        · rw [if_neg c2, if_neg c2]
      by_cases c3 : x.Sym = t.Sym
      · rw [if_pos c3]
        exact core 0 (.inl rfl) (by unfold s0; simp only []; rw [if_pos c3])
      · rw [if_neg c3]
        exact core 1 (.inr rfl) (by unfold s0; simp only []; rw [if_neg c3])
    · rw [if_neg c1, if_neg (by omega)]
end Go.AM.S22

namespace Go.AM.S22
open Go Go.Proofs Go.AM
set_option linter.unusedVariables false
set_option maxRecDepth 100000
def toL (c : ref22_choice) : repair_labeled := if c.some = true then ⟨c.n, c.t⟩ else ⟨-1, ⟨0, []⟩⟩
theorem toL_get (row : List ref22_choice) (i : Nat) (h : i < row.length) : (row.map toL)[i]? = some (toL ((row[i]?).getD zc)) := by
  rw [List.getElem?_map, List.getElem?_eq_getElem h]; rfl
theorem toL_many {t : Tree} {c : ref22_choice} (h : GC t c) : ((toL c).many < 0) ↔ c.some = false := by
  unfold toL
  cases e : c.some with
  | false => simp
  | true => have := (h.yes e).2.2; simp; omega
theorem prog_inner {m : Nat} {R : Type} (G : Nat → Option (List repair_labeled)) (f : Option R) : ∀ (ks : List (List ref22_choice)) (kl : List Tree) (xs : List Int) (p : Nat) (b : Int) (l : List Tree) (k : Int × List Tree → Option R), GK m ks kl → (∀ i r, ks[i]? = some r → G (p + i) = some (r.map toL)) → xs.length = ks.length → (∀ x ∈ xs, 0 ≤ x ∧ x < (m : Int)) →
    0 ≤ b → b + tsL kl ≤ 1000 → l.length + ks.length ≤ 1000 →
    rangeC (fun i1 (x1 : Int) (s1 : Int × (List Tree)) n1 => (G i1).bind fun v1 => (idx v1 x1).bind fun v2 => if v2.many < 0 then f else (app 32 s1.2 [v2.tree]).bind fun v3 => n1 (w64 (s1.1 + v2.many), v3)) xs p (b, l) k = if (rf ks xs (true, b, l)).1 = true then k ((rf ks xs (true, b, l)).2.1, (rf ks xs (true, b, l)).2.2) else f
  | [], [], [], p, b, l, k, _, _, _, _, _, _, _ => by
    have : rf [] [] (true, b, l) = (true, b, l) := by rw [rf]; exact fun _ _ _ _ h => by cases h
    rw [rangeC, this]; rfl
  | _ :: _, [], _, _, _, _, _, h, _, _, _, _, _, _ => h.elim
  | [], _ :: _, _, _, _, _, _, h, _, _, _, _, _, _ => h.elim
  | [], [], _ :: _, _, _, _, _, _, _, h, _, _, _, _ => by simp at h
  | _ :: _, _ :: _, [], _, _, _, _, _, _, h, _, _, _, _ => by simp at h
  | r :: ks, t :: kl, x :: xs, p, b, l, k, hg, hr, hl, hx, h0, h1, h2 => by
    have hp := hr 0 r rfl
    rw [Nat.add_zero] at hp
    have hxx := hx x (by simp)
    have hgc := hg.1.get x.toNat
    have hn := hgc.n
    rw [tsL] at h1
    rw [rangeC, hp]
    simp only [Option.bind_some]
    have hidx : idx (r.map toL) x = some (toL ((r[x.toNat]?).getD zc)) := by
      unfold idx
      rw [if_pos hxx.1, toL_get _ _ (by rw [hg.1.1]; omega)]
    rw [hidx]
    simp only [Option.bind_some]
    rw [rf]
    by_cases e : ((r[x.toNat]?).getD zc).some = true
    · rw [if_neg (fun h => by rw [toL_many hgc] at h; rw [h] at e; cases e)]
      rw [List.length_cons] at h2
      rw [app_ok (by simp only [List.length_cons, List.length_nil]; omega)]
      simp only [Option.bind_some]
      have e1 : toL ((r[x.toNat]?).getD zc) = ⟨((r[x.toNat]?).getD zc).n, ((r[x.toNat]?).getD zc).t⟩ := if_pos e
      rw [e1]
      simp only []
      rw [w64_eq (by omega) (by omega), e, Bool.and_true]
      exact prog_inner G f ks kl xs (p + 1) (b + ((r[x.toNat]?).getD zc).n) (l ++ [((r[x.toNat]?).getD zc).t]) k hg.2 (fun i r' hi => by have := hr (i + 1) r' (by simpa using hi); rwa [show p + (i + 1) = p + 1 + i by omega] at this) (by simpa using hl) (fun y hy => hx y (List.mem_cons_of_mem _ hy)) (by omega) (by omega) (by simp only [List.length_append, List.length_cons, List.length_nil]; omega)
    · have e := eq_false_of_ne_true e
      rw [if_pos ((toL_many hgc).2 e), if_neg]
      rw [rf_false]
      · simp
      · simp only [e, Bool.and_false]
def zl : repair_labeled := ⟨0, ⟨0, []⟩⟩
def relP (ks : List (List ref22_choice)) (x : Rule) (sym : Int) : repair_labeled × Bool :=
  if x.From.length = ks.length then
    (if (rf ks x.From (s0 x sym)).1 = true then (⟨(rf ks x.From (s0 x sym)).2.1, ⟨x.Sym, (rf ks x.From (s0 x sym)).2.2⟩⟩, true) else (zl, false))
  else (zl, false)
theorem s0_1 {x : Rule} {sym : Int} (h : x.Sym = sym) : s0 x sym = (true, 0, []) := by unfold s0; rw [if_pos h]
theorem s0_2 {x : Rule} {sym : Int} (h : ¬ x.Sym = sym) : s0 x sym = (true, 1, []) := by unfold s0; rw [if_neg h]
theorem relq_eq {m : Nat} {ks : List (List ref22_choice)} {u : Tree} {x : Rule} {o : List (List repair_labeled)} {off : Nat} (hg : GK m ks u.Kids) (hs : tsT u ≤ 80) (ho : ∀ i r, ks[i]? = some r → o[off + i]? = some (r.map toL)) (hf : x.From.length ≤ 30) (hx : ∀ s ∈ x.From, 0 ≤ s ∧ s < (m : Int)) :
    repair_relabeled_xxq x u o ks.length off = some (relP ks x u.Sym) := by
  have hkl := tlen u.Kids
  have hts := tsT_eq u
  have hln := hg.len
  have hG : ∀ i r, ks[i]? = some r → idxS off ks.length o ((0 + i : Nat) : Int) = some (r.map toL) := fun i r hi => by
    have hlt := (List.getElem?_eq_some_iff.1 hi).1
    unfold idxS
    rw [if_pos (by omega), Int.toNat_natCast, Nat.zero_add]
    exact ho i r hi
  unfold repair_relabeled_xxq relP
  by_cases c1 : (x.From.length : Int) = (ks.length : Int)
  · have c1' : x.From.length = ks.length := by omega
    rw [if_pos c1, if_pos c1']
    by_cases c2 : x.Sym = u.Sym
    · rw [if_pos c2, rangeL, if_pos (by omega), s0_1 c2]
      rw [prog_inner (m := m) (fun i => idxS off ks.length o (i : Int)) _ ks u.Kids x.From 0 0 [] _ hg hG c1' hx (by omega) (by omega) (by simp only [List.length_nil]; omega)]
      split <;> rfl
    · rw [if_neg c2, rangeL, if_pos (by omega), s0_2 c2]
      rw [prog_inner (m := m) (fun i => idxS off ks.length o (i : Int)) _ ks u.Kids x.From 0 1 [] _ hg hG c1' hx (by omega) (by omega) (by simp only [List.length_nil]; omega)]
      split <;> rfl
  · rw [if_neg c1, if_neg (by omega)]; rfl
theorem rel0_eq {m : Nat} {u : Tree} {x : Rule} (hk : u.Kids = []) (hf : x.From.length ≤ 30) (hx : ∀ s ∈ x.From, 0 ≤ s ∧ s < (m : Int)) :
    repair_relabeled x u [] = some (relP [] x u.Sym) := by
  have hg : GK m [] [] := trivial
  unfold repair_relabeled relP
  by_cases c1 : (x.From.length : Int) = (([] : List (List repair_labeled)).length : Int)
  · have c1' : x.From.length = ([] : List (List ref22_choice)).length := by simpa using c1
    rw [if_pos c1, if_pos c1']
    by_cases c2 : x.Sym = u.Sym
    · rw [if_pos c2, rangeL, if_pos (by omega), s0_1 c2]
      rw [prog_inner (m := m) (fun i => ([] : List (List repair_labeled))[i]?) _ [] [] x.From 0 0 [] _ hg (fun i r hi => by simp at hi) c1' hx (by omega) (by rw [tsL]; omega) (by simp)]
      split <;> rfl
    · rw [if_neg c2, rangeL, if_pos (by omega), s0_2 c2]
      rw [prog_inner (m := m) (fun i => ([] : List (List repair_labeled))[i]?) _ [] [] x.From 0 1 [] _ hg (fun i r hi => by simp at hi) c1' hx (by omega) (by rw [tsL]; omega) (by simp)]
      split <;> rfl
  · rw [if_neg c1, if_neg (by simpa using c1)]; rfl
theorem before_eq {n : Nat} {t : Tree} {c : ref22_choice} {d : ref22_choice} (hc : tdT c.t < n) (hcs : tsT c.t ≤ 100000) (hd : GC t d) (h1 : tdT t < n) (h2 : tsT t ≤ 100000) : repair_before n ⟨c.n, c.t⟩ (toL d) = some (lessB c d) := by
  unfold repair_before lessB
  simp only []
  by_cases e : d.some = true
  · obtain ⟨q1, q2, q3, q4⟩ := hd.yes e
    rw [if_neg (fun h => by rw [toL_many hd] at h; rw [h] at e; cases e), if_pos e]
    have e1 : toL d = ⟨d.n, d.t⟩ := if_pos e
    rw [e1]
    simp only []
    by_cases c1 : c.n < d.n
    · rw [if_pos c1, if_neg (by omega), decide_eq_true c1]
    · rw [if_neg c1]
      by_cases c2 : c.n = d.n
      · rw [if_pos c2, if_pos c2, Compare_eq hc (by omega) hcs (by omega), cT_eq hc]; rfl
      · rw [if_neg c2, if_neg c2, decide_eq_false c1]
  · rw [if_pos ((toL_many hd).2 (eq_false_of_ne_true e)), if_neg e]
theorem row_loop {a : Automaton} (ha : OKa a) {n : Nat} {u : Tree} {ks : List (List ref22_choice)} (hg : GK a.States.toNat ks u.Kids) (hd : tdT u + 1 < n) (hs : tsT u ≤ 80) (X : Rule → Option (repair_labeled × Bool)) (hX : ∀ x ∈ a.Rules, X x = some (relP ks x u.Sym)) {R : Type} :
    ∀ (l : List Rule) (i : Nat) (row : List ref22_choice) (k : List repair_labeled → Option R), (∀ x ∈ l, x ∈ a.Rules) → GR a.States.toNat u row →
    rangeC (fun i2 x2 (s2 : (List repair_labeled)) n2 => (X x2).bind fun v6 => if v6.2 = true then (idxM ((a.States).toNat) s2 x2.To).bind fun v7 => (repair_before n v6.1 v7).bind fun v8 => if v8 = true then n2 (List.set s2 ((x2.To).toNat) v6.1) else n2 s2 else n2 s2) l i (row.map toL) k = k ((l.foldl (stepR ks u.Sym) row).map toL)
  | [], i, row, k, _, _ => by rw [rangeC]; rfl
  | x :: l, i, row, k, hm, hr => by
    have hx := hm x (by simp)
    have hto := ha.to x hx
    have ih := row_loop ha hg hd hs X hX l (i + 1) (stepR ks u.Sym row x) k (fun y hy => hm y (List.mem_cons_of_mem _ hy)) (step_GR hg hr x)
    rw [rangeC, hX x hx, List.foldl_cons, ← ih]
    simp only [Option.bind_some]
    unfold stepR relP
    by_cases c1 : x.From.length = ks.length
    · rw [if_pos c1, if_pos c1]
      by_cases c2 : (rf ks x.From (s0 x u.Sym)).1 = true
      · rw [if_pos c2, if_pos c2]
        simp only [if_true]
        have hrow : idxM a.States.toNat (row.map toL) x.To = some (toL ((row[x.To.toNat]?).getD zc)) := by
          unfold idxM
          rw [if_pos (by omega), toL_get _ _ (by rw [hr.1]; omega)]
        rw [hrow]
        simp only [Option.bind_some]
        obtain ⟨q1, q2⟩ := rf_ok _ _ _ _ hg c1 c2
        have e1 : tsL (s0 x u.Sym).2.2 = 0 := by unfold s0; rw [tsL]
        have e2 : tdL (s0 x u.Sym).2.2 = 0 := by unfold s0; rw [tdL]
        rw [e1] at q1; rw [e2] at q2
        have hts := tsT_eq u
        have htd := tdT_eq u
        have hb := before_eq (n := n) (t := u) (c := mkC x (rf ks x.From (s0 x u.Sym))) (d := (row[x.To.toNat]?).getD zc) (by unfold mkC; simp only []; rw [tdT, q2]; omega) (by unfold mkC; simp only []; rw [tsT, q1]; omega) (hr.get _) (by omega) (by omega)
        have hmk : toL (mkC x (rf ks x.From (s0 x u.Sym))) = ⟨(rf ks x.From (s0 x u.Sym)).2.1, ⟨x.Sym, (rf ks x.From (s0 x u.Sym)).2.2⟩⟩ := rfl
        have hb : repair_before n ⟨(rf ks x.From (s0 x u.Sym)).2.1, ⟨x.Sym, (rf ks x.From (s0 x u.Sym)).2.2⟩⟩ (toL ((row[x.To.toNat]?).getD zc)) = _ := hb
        rw [hb]
        simp only [Option.bind_some]
        by_cases c3 : lessB (mkC x (rf ks x.From (s0 x u.Sym))) ((row[x.To.toNat]?).getD zc) = true
        · rw [if_pos c3, if_pos c3, List.map_set, hmk]
        · rw [if_neg c3, if_neg c3]
      · rw [if_neg c2, if_neg c2]
        simp only [Bool.false_eq_true, if_false]
    · rw [if_neg c1, if_neg c1]
      simp only [Bool.false_eq_true, if_false]
theorem init_eq {R : Type} {m : Nat} : ∀ (j p : Nat) (k : List repair_labeled → Option R), m = p + j →
    rangeC (fun i (_ : Unit) (s1 : (List repair_labeled)) n1 => (idxM m s1 (i : Int)).bind fun v9 => n1 (List.set s1 i (repair_labeled.mk (-1) v9.tree))) (List.replicate j ()) p (List.replicate p ⟨-1, ⟨0, []⟩⟩ ++ List.replicate j ⟨0, ⟨0, []⟩⟩) k = k (List.replicate m ⟨-1, ⟨0, []⟩⟩)
  | 0, p, k, h => by
    rw [List.replicate_zero, rangeC, List.replicate_zero, List.append_nil, h, Nat.add_zero]
  | j + 1, p, k, h => by
    rw [List.replicate_succ, rangeC]
    have h1 : idxM m (List.replicate p (⟨-1, ⟨0, []⟩⟩ : repair_labeled) ++ List.replicate (j + 1) ⟨0, ⟨0, []⟩⟩) (p : Int) = some ⟨0, ⟨0, []⟩⟩ := by
      unfold idxM
      rw [if_pos (by omega), Int.toNat_natCast, List.getElem?_append_right (by simp), List.length_replicate, Nat.sub_self, List.replicate_succ]; rfl
    rw [h1]
    simp only [Option.bind_some]
    have h2 : List.set (List.replicate p (⟨-1, ⟨0, []⟩⟩ : repair_labeled) ++ List.replicate (j + 1) (⟨0, ⟨0, []⟩⟩ : repair_labeled)) p (⟨-1, ⟨0, []⟩⟩ : repair_labeled) = List.replicate (p + 1) (⟨-1, ⟨0, []⟩⟩ : repair_labeled) ++ List.replicate j (⟨0, ⟨0, []⟩⟩ : repair_labeled) := by
      rw [List.set_append_right _ _ (by simp), List.length_replicate, Nat.sub_self, List.replicate_succ, List.set_cons_zero, List.replicate_succ', List.append_assoc]; rfl
    rw [h2]
    exact init_eq j (p + 1) k (by omega)
theorem toL_rep (m : Nat) : (List.replicate m zc).map toL = List.replicate m (⟨-1, ⟨0, []⟩⟩ : repair_labeled) := by rw [List.map_replicate]; rfl
theorem cut_eq {l base k : Nat} (hl : l = base + k) (hb : base ≤ 500) (hk : k ≤ 500) : cutM l (w64 ((l : Int) - (k : Int))) = some base := by
  rw [w64_eq (by omega) (by omega)]
  unfold cutM
  rw [if_pos (by omega)]
  congr 1
  omega
theorem mk_eq {a : Automaton} (ha : OKa a) : mkz 40 a.States a.States (repair_labeled.mk 0 (Tree.mk 0 ([] : List Tree))) = some (List.replicate a.States.toNat ⟨0, ⟨0, []⟩⟩) := by
  have hst := ha.st
  unfold mkz; rw [if_pos (by omega)]
theorem all_eq (a : Automaton) (u : Tree) : allM 0 a.States.toNat ((chT a u).map toL) = some ((chT a u).map toL) := by
  have hG := chT_GR a u
  unfold allM
  rw [if_pos (by rw [List.length_map, hG.1]; omega), List.drop_zero, List.take_of_length_le (by rw [List.length_map, hG.1]; exact Nat.le_refl _)]
theorem ini_eq {R : Type} {a : Automaton} (ha : OKa a) (k : List repair_labeled → Option R) : rangeI ((a.States).toNat : Int) (List.replicate a.States.toNat (⟨0, ⟨0, []⟩⟩ : repair_labeled)) (fun k1 i1 (s1 : (List repair_labeled)) n1 =>
    (idxM ((a.States).toNat) s1 (i1 : Int)).bind fun v9 =>
    n1 (List.set s1 i1 (repair_labeled.mk (-1) v9.tree))) k = k ((List.replicate a.States.toNat zc).map toL) := by
  have hst := ha.st
  rw [rangeI, if_pos (by omega), Int.toNat_natCast]
  have hi := init_eq (m := a.States.toNat) a.States.toNat 0 k (by omega)
  simp only [List.replicate_zero, List.nil_append] at hi
  rw [hi, ← toL_rep]
theorem app1_eq {base : Nat} {o : List (List repair_labeled)} (row : List repair_labeled) (hb : base ≤ 500) (hlo : base ≤ o.length) : appM 24 base o [row] = some (o.take base ++ [row]) := by
  unfold appM
  rw [if_pos (by simp only [List.length_cons, List.length_nil]; omega)]
theorem rows_eq {a : Automaton} (ha : OKa a) {n : Nat} {u : Tree} (hd : tdT u + 1 < n) (hs : tsT u ≤ 80) (X : Rule → Option (repair_labeled × Bool)) (hX : ∀ x ∈ a.Rules, X x = some (relP (chL a u.Kids) x u.Sym)) {R : Type} (k : List repair_labeled → Option R) :
    rangeL a.Rules ((List.replicate a.States.toNat zc).map toL) (fun k2 i2 x2 (s2 : (List repair_labeled)) n2 => (X x2).bind fun v6 => if v6.2 = true then (idxM ((a.States).toNat) s2 x2.To).bind fun v7 => (repair_before n v6.1 v7).bind fun v8 => if v8 = true then n2 (List.set s2 ((x2.To).toNat) v6.1) else n2 s2 else n2 s2) k = k ((chT a u).map toL) := by
  have hrl := ha.rul
  rw [rangeL, if_pos (by omega)]
  rw [row_loop ha (chL_GK a u.Kids) hd hs X hX a.Rules 0 _ _ (fun _ h => h) ⟨List.length_replicate .., fun c hc => (by rw [List.eq_of_mem_replicate hc]; exact GC.zc u)⟩]
  rw [chT_eq]; rfl
open Rel in
theorem relRow_eq {a : Automaton} (ha : OKa a) {n : Nat} {u : Tree} (hd : tdT u + 1 < n) (hs : tsT u ≤ 80) {o : List (List repair_labeled)} {l base : Nat} (hl : l = base + u.Kids.length) (hlo : l ≤ o.length) (hb : base ≤ 500)
    (ho : ∀ i r, (chL a u.Kids)[i]? = some r → o[base + i]? = some (r.map toL)) : relRow n a u o l = some (o.take base ++ [(chT a u).map toL], base + 1) := by
  have hkl := tlen u.Kids
  have hts := tsT_eq u
  have hKl := chL_len a u.Kids
  have hcut := cut_eq (k := u.Kids.length) hl hb (by omega)
  unfold relRow
  rw [mk_eq ha, Option.bind_some, ini_eq ha]
  simp only [hcut, Option.bind_some]
  rw [rows_eq ha hd hs (fun x => repair_relabeled_xxq x u o (l - base) base) (fun x hx => by
    rw [show l - base = (chL a u.Kids).length by omega]
    exact relq_eq (chL_GK a u.Kids) hs ho (ha.frm x hx) (fun s hs => by have := ha.from' x hx s hs; omega))]
  rw [all_eq, Option.bind_some, app1_eq _ hb (by omega), Option.bind_some]
open Rel in
theorem relRow0_eq {a : Automaton} (ha : OKa a) {n : Nat} {u : Tree} (hd : tdT u + 1 < n) (hs : tsT u ≤ 80) (hk : u.Kids = []) : relRow0 n a u = some ([(chT a u).map toL], 1) := by
  have hc0 : chL a u.Kids = [] := by rw [hk, chL]
  have hcut : cutM 0 (w64 (0 - (u.Kids.length : Int))) = some 0 := by rw [hk]; exact cut_eq (l := 0) (base := 0) (k := 0) rfl (by omega) (by omega)
  unfold relRow0
  rw [mk_eq ha, Option.bind_some, ini_eq ha]
  simp only [hcut, Option.bind_some]
  rw [rows_eq ha hd hs (fun x => repair_relabeled x u []) (fun x hx => by
    rw [hc0]
    exact rel0_eq (m := a.States.toNat) hk (ha.frm x hx) (fun s hs => by have := ha.from' x hx s hs; omega))]
  rw [all_eq, Option.bind_some, app1_eq _ (by omega) (by simp), Option.bind_some]
  rfl
namespace Rel
def pl : PS → List (List repair_labeled)
  | none => []
  | some (_, o, l) => o.take l
def pk : PS → Prop
  | none => True
  | some (_, o, l) => l ≤ o.length
theorem stp_eq {a : Automaton} (ha : OKa a) {n : Nat} {u : Tree} (hd : tdT u + 1 < n) (hs : tsT u ≤ 80) {p : PS} (hp : pk p) {base : List (List repair_labeled)} (hb : base.length ≤ 500) (he : pl p = base ++ (chL a u.Kids).map (List.map toL)) :
    ∃ q, stp n a u p = some q ∧ pk q ∧ pl q = base ++ [(chT a u).map toL] := by
  have hKl := chL_len a u.Kids
  rcases p with _ | ⟨g, o, l⟩
  · have h0 : base = [] ∧ (chL a u.Kids).map (List.map toL) = [] := List.append_eq_nil_iff.1 he.symm
    have hk : u.Kids = [] := by
      have := congrArg List.length h0.2
      rw [List.length_map, hKl] at this
      exact List.length_eq_zero_iff.1 this
    unfold stp
    simp only []
    rw [relRow0_eq ha hd hs hk, h0.1]
    exact ⟨_, rfl, by simp [pk], by simp [pl]⟩
  · simp only [pk] at hp
    simp only [pl] at he
    have hlen := congrArg List.length he
    rw [List.length_take, List.length_append, List.length_map, hKl] at hlen
    have hl : l = base.length + u.Kids.length := by omega
    have ho : ∀ i r, (chL a u.Kids)[i]? = some r → o[base.length + i]? = some (r.map toL) := fun i r hi => by
      have hlt := (List.getElem?_eq_some_iff.1 hi).1
      have h1 : (o.take l)[base.length + i]? = some (r.map toL) := by
        rw [he, List.getElem?_append_right (by omega), show base.length + i - base.length = i by omega, List.getElem?_map, hi]; rfl
      rw [List.getElem?_take, if_pos (by omega)] at h1
      exact h1
    unfold stp
    simp only []
    rw [relRow_eq ha hd hs hl hp hb ho]
    have htk : o.take base.length = base := by
      have : (o.take l).take base.length = base := by rw [he, List.take_left']; rfl
      rw [List.take_take, show min base.length l = base.length by omega] at this
      exact this
    refine ⟨_, rfl, ?_, ?_⟩
    · simp only [pk, List.length_append, List.length_take, List.length_cons, List.length_nil]; omega
    · simp only [pl]
      rw [htk, List.take_of_length_le (by simp)]
theorem walk_eq {a : Automaton} (ha : OKa a) {n : Nat} : ∀ (k : Nat) (t : Tree) (p : PS) (m : Int), tdT t < k → tdT t + 1 < n → tsT t ≤ 80 → pk p → (pl p).length + tsT t ≤ 500 →
    ∃ q m', walk n a k t (p, m) = some (q, m') ∧ pk q ∧ pl q = pl p ++ [(chT a t).map toL] := by
  intro k
  induction k with
  | zero => intro t p m h; omega
  | succ k ih =>
    intro t p m hd hn hs hp hb
    have hkl := tlen t.Kids
    have hts := tsT_eq t
    have htd := tdT_eq t
    rw [walk, rangeL, if_pos (by omega)]
    suffices H : ∀ (l : List Tree) (i : Nat) (p : PS) (m : Int) (K : PS × Int → Option (PS × Int)), (∀ x ∈ l, x ∈ t.Kids) → pk p → (pl p).length + tsL l ≤ 500 →
        ∃ q m', rangeC (fun (_ : Nat) x1 s1 n1 => (walk n a k x1 s1).bind fun v => n1 v) l i (p, m) K = K (q, m') ∧ pk q ∧ pl q = pl p ++ (chL a l).map (List.map toL) by
      obtain ⟨q, m', h1, h2, h3⟩ := H t.Kids 0 p m _ (fun _ h => h) hp (by omega)
      obtain ⟨q2, e1, e2, e3⟩ := stp_eq ha hn hs h2 (base := pl p) (by omega) h3
      rw [h1]
      simp only []
      rw [e1]
      exact ⟨q2, _, rfl, e2, e3⟩
    intro l
    induction l with
    | nil => intro i p m K _ hp _; exact ⟨p, m, by rw [rangeC], hp, by rw [chL]; simp⟩
    | cons x l ihl =>
      intro i p m K hm hp hb
      have hx := td_mem (hm x (by simp))
      have hx2 := ts_mem (hm x (by simp))
      rw [tsL] at hb
      obtain ⟨q, m1, e1, e2, e3⟩ := ih x p m (by omega) (by omega) (by omega) hp (by omega)
      have hq : (pl q).length = (pl p).length + 1 := by rw [e3]; simp
      have hx3 := tsT_eq x
      obtain ⟨q2, m2, f1, f2, f3⟩ := ihl (i + 1) q m1 K (fun y hy => hm y (List.mem_cons_of_mem _ hy)) e2 (by omega)
      refine ⟨q2, m2, ?_, f2, ?_⟩
      · rw [rangeC, e1]; exact f1
      · rw [f3, e3, chL]; simp
end Rel
end Go.AM.S22

namespace Go.AM.S22
open Go Go.Proofs Go.AM
set_option linter.unusedVariables false
theorem allI_get {α : Type} {ok : Nat → α → Bool} : ∀ (l : List α) (i : Nat), allI ok i l = true → ∀ x ∈ l, ∃ j, ok j x = true
  | [], _, _, x, h => by cases h
  | y :: l, i, ha, x, h => by
    rw [allI, Bool.and_eq_true] at ha
    rcases List.mem_cons.1 h with rfl | h
    · exact ⟨i, ha.1⟩
    · exact allI_get l (i + 1) ha.2 x h
theorem stOk_iff {m s : Int} (h : stOk m s = true) : 0 ≤ s ∧ s < m := of_decide_eq_true h
theorem ok_of {r : List Int} {a : Automaton} {t : Tree} (hv : aV r a = true) (hf : fewB r a t = true) : OKa a := by
  unfold aV at hv
  unfold fewB at hf
  simp only [Bool.and_eq_true, decide_eq_true_eq, List.all_eq_true, Bool.or_eq_true] at hv hf
  obtain ⟨v1, ⟨v2, v3, v4⟩, v5, v6⟩ := hv
  obtain ⟨f1, f2, f3, f4, f5, f6⟩ := hf
  refine ⟨⟨v2, v3⟩, f5, f6, f2, fun x hx => ?_, fun x hx s hs => ?_, fun s hs => ?_⟩
  · have := v6 x hx
    unfold rOk at this
    simp only [Bool.and_eq_true] at this
    exact stOk_iff this.2.1
  · have := v6 x hx
    unfold rOk at this
    simp only [Bool.and_eq_true, List.all_eq_true] at this
    exact stOk_iff (this.2.2 s hs)
  · obtain ⟨j, hj⟩ := allI_get _ _ v5 s hs
    unfold fOk at hj
    rw [Bool.and_eq_true] at hj
    exact stOk_iff hj.1
def stepB (row : List ref22_choice) (d : ref22_choice) (x : Int) : ref22_choice :=
  if ((row[x.toNat]?).getD zc).some = true then (if lessB ((row[x.toNat]?).getD zc) d = true then (row[x.toNat]?).getD zc else d) else d
theorem stepB_GC {m : Nat} {t : Tree} {row : List ref22_choice} (h : GR m t row) {d : ref22_choice} (hd : GC t d) (x : Int) : GC t (stepB row d x) := by
  unfold stepB
  split
  · split
    · exact h.get _
    · exact hd
  · exact hd
theorem choice_eta {c : ref22_choice} (h : c.some = true) : (⟨true, c.n, c.t⟩ : ref22_choice) = c := by
  obtain ⟨s, n, t⟩ := c
  simp only at h
  subst h; rfl
theorem best_ref {m : Nat} {t : Tree} {row : List ref22_choice} (h : GR m t row) {n : Nat} (hd : tdT t + 1 < n) (hs : tsT t ≤ 80) {R : Type} : ∀ (l : List Int) (i : Nat) (d : ref22_choice) (k : Bool × Int × Int × List Tree → Option R), (∀ x ∈ l, 0 ≤ x ∧ x < (m : Int)) → GC t d →
    rangeC (fun i1 x1 (s1 : Bool × Int × Int × (List Tree)) n1 =>
      (idx row x1).bind fun v3 =>
      if v3.some = true then
        (ref22_choice_less n (ref22_choice.mk true v3.n v3.t) (ref22_choice.mk s1.1 s1.2.1 (Tree.mk s1.2.2.1 s1.2.2.2))).bind fun v4 =>
        if v4 = true then
          n1 (true, v3.n, v3.t.Sym, v3.t.Kids)
        else
          n1 (s1.1, s1.2.1, s1.2.2.1, s1.2.2.2)
      else
        n1 (s1.1, s1.2.1, s1.2.2.1, s1.2.2.2)) l i (d.some, d.n, d.t.Sym, d.t.Kids) k = k ((l.foldl (stepB row) d).some, (l.foldl (stepB row) d).n, (l.foldl (stepB row) d).t.Sym, (l.foldl (stepB row) d).t.Kids)
  | [], i, d, k, _, _ => by rw [rangeC]; rfl
  | x :: l, i, d, k, hx, hg => by
    have hxx := hx x (by simp)
    have hc := h.get x.toNat
    have ih := best_ref h hd hs l (i + 1) (stepB row d x) k (fun y hy => hx y (List.mem_cons_of_mem _ hy)) (stepB_GC h hg x)
    rw [rangeC, idx_get (z := zc) h.1 hxx.1 hxx.2, List.foldl_cons, ← ih]
    simp only [Option.bind_some]
    unfold stepB
    by_cases c1 : ((row[x.toNat]?).getD zc).some = true
    · rw [if_pos c1, if_pos c1]
      obtain ⟨q1, q2, _⟩ := hc.yes c1
      have e1 : (⟨true, ((row[x.toNat]?).getD zc).n, ((row[x.toNat]?).getD zc).t⟩ : ref22_choice) = (row[x.toNat]?).getD zc := choice_eta c1
      have e2 : (⟨d.some, d.n, ⟨d.t.Sym, d.t.Kids⟩⟩ : ref22_choice) = d := by obtain ⟨_, _, ⟨_, _⟩⟩ := d; rfl
      rw [e1, e2, less_eq (by omega) (fun h => by have := hg.yes h; omega) (by omega)]
      simp only [Option.bind_some]
      by_cases c2 : lessB ((row[x.toNat]?).getD zc) d = true
      · rw [if_pos c2, if_pos c2, c1]
      · rw [if_neg c2, if_neg c2]
    · rw [if_neg c1, if_neg c1]
theorem best_prog {m : Nat} {t : Tree} {row : List ref22_choice} (h : GR m t row) {n : Nat} (hd : tdT t + 1 < n) (hs : tsT t ≤ 80) {W : Option (List repair_labeled)} (hW : W = some (row.map toL)) {R : Type} : ∀ (l : List Int) (i : Nat) (d : ref22_choice) (k : Int × Int × List Tree → Option R), (∀ x ∈ l, 0 ≤ x ∧ x < (m : Int)) → GC t d →
    rangeC (fun i1 x1 (s1 : Int × Int × (List Tree)) n1 =>
        W.bind fun v4 =>
        (idx v4 x1).bind fun v5 =>
        if 0 ≤ v5.many then
          (repair_before n v5 (repair_labeled.mk s1.1 (Tree.mk s1.2.1 s1.2.2))).bind fun v6 =>
          if v6 = true then
            n1 (v5.many, v5.tree.Sym, v5.tree.Kids)
          else
            n1 (s1.1, s1.2.1, s1.2.2)
        else
          n1 (s1.1, s1.2.1, s1.2.2)) l i ((toL d).many, (toL d).tree.Sym, (toL d).tree.Kids) k = k ((toL (l.foldl (stepB row) d)).many, (toL (l.foldl (stepB row) d)).tree.Sym, (toL (l.foldl (stepB row) d)).tree.Kids)
  | [], i, d, k, _, _ => by rw [rangeC]; rfl
  | x :: l, i, d, k, hx, hg => by
    have hxx := hx x (by simp)
    have hc := h.get x.toNat
    have ih := best_prog h hd hs hW l (i + 1) (stepB row d x) k (fun y hy => hx y (List.mem_cons_of_mem _ hy)) (stepB_GC h hg x)
    have hidx : idx (row.map toL) x = some (toL ((row[x.toNat]?).getD zc)) := by
      unfold idx
      rw [if_pos hxx.1, toL_get _ _ (by rw [h.1]; omega)]
    rw [rangeC, hW, List.foldl_cons]
    rw [hW] at ih
    rw [← ih]
    simp only [Option.bind_some]
    rw [hidx]
    simp only [Option.bind_some]
    unfold stepB
    by_cases c1 : ((row[x.toNat]?).getD zc).some = true
    · have hm : ¬ (toL ((row[x.toNat]?).getD zc)).many < 0 := fun h => by rw [toL_many hc] at h; rw [h] at c1; cases c1
      rw [if_pos (show 0 ≤ (toL ((row[x.toNat]?).getD zc)).many by omega), if_pos c1]
      obtain ⟨q1, q2, _⟩ := hc.yes c1
      have e1 : toL ((row[x.toNat]?).getD zc) = ⟨((row[x.toNat]?).getD zc).n, ((row[x.toNat]?).getD zc).t⟩ := if_pos c1
      have e2 : (⟨(toL d).many, ⟨(toL d).tree.Sym, (toL d).tree.Kids⟩⟩ : repair_labeled) = toL d := by
        generalize toL d = q
        obtain ⟨_, ⟨_, _⟩⟩ := q; rfl
      rw [e2]
      have hb := before_eq (n := n) (c := (row[x.toNat]?).getD zc) (d := d) (t := t) (by omega) (by omega) hg (by omega) (by omega)
      rw [← e1] at hb
      rw [hb]
      simp only [Option.bind_some]
      by_cases c2 : lessB ((row[x.toNat]?).getD zc) d = true
      · rw [if_pos c2, if_pos c2]
      · rw [if_neg c2, if_neg c2]
    · have hm := (toL_many hc).2 (eq_false_of_ne_true c1)
      rw [if_neg (show ¬ 0 ≤ (toL ((row[x.toNat]?).getD zc)).many by omega), if_neg c1]
def bestT (a : Automaton) (t : Tree) : ref22_choice := a.Final.foldl (stepB (chT a t)) zc
theorem bestT_GC (a : Automaton) (t : Tree) : GC t (bestT a t) := by
  unfold bestT
  have : ∀ (l : List Int) (d : ref22_choice), GC t d → GC t (l.foldl (stepB (chT a t)) d) := by
    intro l
    induction l with
    | nil => intro d h; exact h
    | cons x l ih => intro d h; exact ih _ (stepB_GC (chT_GR a t) h x)
  exact this _ _ (GC.zc t)
def relT (r : List Int) (a : Automaton) (t : Tree) : Int × Tree × Int :=
  if aV r a = true ∧ tvld r t = true then (if (bestT a t).some = true then ((bestT a t).n, (bestT a t).t, 0) else (0, ⟨0, []⟩, 5)) else (0, ⟨0, []⟩, 1)
theorem tvld_sh {r : List Int} {t : Tree} (h : tvld r t = true) : tsT t ≤ 300 := by
  unfold tvld at h
  simp only [Bool.and_eq_true, decide_eq_true_eq] at h
  omega
theorem ref_top {n : Nat} {r : List Int} {a : Automaton} {t : Tree} (w : AW a) (hd : tdT t + 2 < n) (hw : twT t = true) (hf : fewB r a t = true) : ref22_Relabel n ⟨r⟩ a t = some (relT r a t) := by
  unfold ref22_Relabel ref22_Asked relT
  rw [rauto_eq r a w]
  simp only [Option.bind_some]
  by_cases c1 : aV r a = true
  · rw [if_pos c1, rtvalid_eq r (by omega) hw]
    simp only [Option.bind_some]
    by_cases c2 : tvld r t = true
    · have ha := ok_of c1 hf
      have hs : tsT t ≤ 80 := by
        unfold fewB at hf
        simp only [Bool.and_eq_true, decide_eq_true_eq] at hf
        omega
      have hfl := ha.fin
      rw [if_pos c2, if_pos ⟨c1, c2⟩]
      simp only [Option.bind_some, if_true]
      rw [ref_eq ha n t hd hs]
      simp only [Option.bind_some]
      rw [rangeL, if_pos (by omega)]
      have hb := best_ref (chT_GR a t) (n := n) (by omega) hs a.Final 0 zc (fun s1 => if s1.1 = true then some (s1.2.1, (Tree.mk s1.2.2.1 s1.2.2.2), (0 : Int)) else some (0, (Tree.mk 0 ([] : List Tree)), 5)) (fun x hx => by have := ha.fins x hx; omega) (GC.zc t)
      refine hb.trans ?_
      show (if (bestT a t).some = true then some ((bestT a t).n, (Tree.mk (bestT a t).t.Sym (bestT a t).t.Kids), (0 : Int)) else some (0, (Tree.mk 0 ([] : List Tree)), 5)) = _
      have e : (Tree.mk (bestT a t).t.Sym (bestT a t).t.Kids) = (bestT a t).t := by generalize (bestT a t).t = q; cases q; rfl
      rw [e]
      split <;> rfl
    · rw [if_neg c2, if_neg (fun h => c2 h.2)]; rfl
  · rw [if_neg c1, if_neg (fun h => c1 h.1)]; rfl
theorem prog_top {n : Nat} {r : List Int} {a : Automaton} {t : Tree} (w : AW a) (hd : tdT t + 2 < n) (hw : twT t = true) (hf : fewB r a t = true) : repair_Relabel n ⟨r⟩ a t = some (relT r a t) := by
  unfold repair_Relabel relT
  rw [auto_eq r a w]
  simp only [Option.bind_some]
  by_cases c1 : aV r a = true
  · rw [if_pos c1, tvalid_eq r (by omega) hw]
    simp only [Option.bind_some]
    by_cases c2 : tvld r t = true
    · have ha := ok_of c1 hf
      have hs : tsT t ≤ 80 := by
        unfold fewB at hf
        simp only [Bool.and_eq_true, decide_eq_true_eq] at hf
        omega
      have hfl := ha.fin
      rw [if_pos c2, if_pos ⟨c1, c2⟩]
      obtain ⟨q, m', e1, e2, e3⟩ := Rel.walk_eq ha (n := n) n t none 0 (by omega) (by omega) hs trivial (by simp [Rel.pl]; omega)
      rw [e1]
      simp only [Option.bind_some]
      rcases q with _ | ⟨g, o, l⟩
      · simp [Rel.pl] at e3
      simp only [Rel.pl, List.nil_append] at e3
      simp only [Rel.pk] at e2
      have hlen := congrArg List.length e3
      simp only [List.length_take, List.length_cons, List.length_nil] at hlen
      have h0 : idxM l o 0 = some ((chT a t).map toL) := by
        unfold idxM
        rw [if_pos (by omega)]
        have : (o.take l)[0]? = some ((chT a t).map toL) := by rw [e3]; rfl
        rw [List.getElem?_take, if_pos (by omega)] at this
        exact this
      simp only [Option.bind_some]
      rw [rangeL, if_pos (by omega)]
      have hb := best_prog (chT_GR a t) (n := n) (by omega) hs (W := idxM l o 0) h0 a.Final 0 zc (fun s1 => if s1.1 < 0 then some ((0 : Int), (Tree.mk 0 ([] : List Tree)), (5 : Int)) else (repair_copied n (Tree.mk s1.2.1 s1.2.2)).bind fun v3 => some (s1.1, v3, 0)) (fun x hx => by have := ha.fins x hx; omega) (GC.zc t)
      refine hb.trans ?_
      have hG := bestT_GC a t
      show (if (toL (bestT a t)).many < 0 then some ((0 : Int), (Tree.mk 0 ([] : List Tree)), (5 : Int)) else (repair_copied n (Tree.mk (toL (bestT a t)).tree.Sym (toL (bestT a t)).tree.Kids)).bind fun v3 => some ((toL (bestT a t)).many, v3, 0)) = _
      by_cases c3 : (bestT a t).some = true
      · rw [if_neg (fun h => by rw [toL_many hG] at h; rw [h] at c3; cases c3), if_pos c3]
        obtain ⟨q1, q2, _⟩ := hG.yes c3
        have e4 : toL (bestT a t) = ⟨(bestT a t).n, (bestT a t).t⟩ := if_pos c3
        rw [e4]
        simp only []
        have e : (Tree.mk (bestT a t).t.Sym (bestT a t).t.Kids) = (bestT a t).t := by generalize (bestT a t).t = q; cases q; rfl
        rw [e, copy_eq n _ (by omega) (by omega)]; rfl
      · rw [if_pos ((toL_many hG).2 (eq_false_of_ne_true c3)), if_neg c3]
    · rw [if_neg c2, if_neg (fun h => c2 h.2)]
  · rw [if_neg c1, if_neg (fun h => c1 h.1)]
theorem same_refl {n : Nat} {x : Tree} (h : tdT x < n) (hw : twT x = true) : ref01_Same n x x = some true := by
  rcases same_eq n x x h hw with ⟨_, h⟩ | ⟨e, _⟩
  · exact h
  · exact absurd rfl e
theorem relabels_law (m : Nat) (r : List Int) (a : Automaton) (t : Tree) (w : AW a) (hd : tdT t ≤ m) (hw : twT t = true) : law22_RepairRelabels (m + 20) ⟨r⟩ a t = some true := by
  unfold law22_RepairRelabels
  rw [few_eq r a t w (by omega) hw, awake_eq]
  simp only [Option.bind_some]
  by_cases c : fewB r a t = true
  · rw [if_pos c, prog_top w (by omega) hw c, ref_top w (by omega) hw c]
    simp only [Option.bind_some, if_true]
    have hs : tsT t ≤ 80 := by
      unfold fewB at c
      simp only [Bool.and_eq_true, decide_eq_true_eq] at c
      omega
    have hq : tdT (relT r a t).2.1 ≤ tdT t ∧ tsT (relT r a t).2.1 ≤ 80 := by
      have h1 := tsT_eq t
      unfold relT
      split
      · split
        · rename_i c3
          obtain ⟨q1, q2, _⟩ := (bestT_GC a t).yes c3
          simp only []; omega
        · simp only []; rw [tdT, tdL, tsT, tsL]; omega
      · simp only []; rw [tdT, tdL, tsT, tsL]; omega
    rw [same_refl (by omega) (twT_of _ (by omega))]
    rfl
  · rw [if_neg c]
theorem twL_all : ∀ {l : List Tree}, (∀ x, x ∈ l → twT x = true) → twL l = true
  | [], _ => by rw [twL]
  | x :: r, h => by rw [twL, h x (by simp), twL_all (fun y hy => h y (List.mem_cons_of_mem _ hy))]; rfl
theorem d3 : (T.at 3).d = .int .i64 := rfl
theorem d30 : (T.at 30).d = .st [(0, 3), (1, 28)] := rfl
theorem d28 : (T.at 28).d = .sl 30 := rfl
theorem d22 : (T.at 22).d = .sl 3 := rfl
theorem d24 : (T.at 24).d = .st [(0, 22)] := rfl
theorem d25 : (T.at 25).d = .sl 64 := rfl
theorem d27 : (T.at 27).d = .st [(0, 3), (1, 22), (2, 25)] := rfl
theorem d64 : (T.at 64).d = .st [(0, 3), (1, 22), (2, 3)] := rfl
theorem sz3 : (T.at 3).size = 1 := rfl
theorem sz28 : (T.at 28).size = 1 := rfl
theorem sz30 : (T.at 30).size = 2 := rfl
theorem sz22 : (T.at 22).size = 1 := rfl
theorem sz24 : (T.at 24).size = 1 := rfl
theorem sz25 : (T.at 25).size = 1 := rfl
theorem sz27 : (T.at 27).size = 3 := rfl
theorem sz64 : (T.at 64).size = 3 := rfl
theorem wt30 : ∀ (n : Nat) (cs : List PV), wt T n 30 cs → ∃ x : Tree, cs = row_Tree x ∧ twT x = true := by
  intro n
  induction n using Nat.strongRecOn with
  | _ n ih =>
    intro cs h
    obtain ⟨m, rfl, h1, h2⟩ := wt_st d30 h
    rw [sz30] at h1
    match cs, h1 with
    | [c0, c1], _ =>
      have f0 := h2 (0, 3) (by simp)
      have f1 := h2 (1, 28) (by simp)
      simp only [sz3, sz28, List.drop_zero, List.drop_succ_cons, List.take_succ_cons, List.take_zero] at f0 f1
      obtain ⟨i, e0, _⟩ := wt_int d3 f0
      obtain ⟨xs, e1, hl, hx⟩ := wt_slM (row := row_Tree) (P := fun x => twT x = true) d28 f1 (fun m' r hm hr => ih m' (by omega) r hr)
      injection e0 with e0; subst e0
      injection e1 with e1; subst e1
      refine ⟨⟨i, xs⟩, by rw [row_Tree_eq, sz30], ?_⟩
      rw [twT, decide_eq_true hl, twL_all hx]; rfl
theorem wt22 {n : Nat} {cs : List PV} (h : wt T n 22 cs) : ∃ r : List Int, cs = [.sl none 1 (r.map rowI)] ∧ r.length < 9223372036854775808 := by
  obtain ⟨xs, e, hl, _⟩ := wt_slM (row := rowI) (P := fun _ => True) d22 h (fun m' r _ hr => by
    obtain ⟨i, e, _⟩ := wt_int d3 hr
    exact ⟨i, e, trivial⟩)
  rw [sz3] at e
  exact ⟨xs, e, hl⟩
theorem wt24 {n : Nat} {cs : List PV} (h : wt T n 24 cs) : ∃ r : List Int, cs = [.sl none 1 (r.map rowI)] := by
  obtain ⟨m, rfl, h1, h2⟩ := wt_st d24 h
  rw [sz24] at h1
  match cs, h1 with
  | [c0], _ =>
    have f0 := h2 (0, 22) (by simp)
    simp only [sz22, List.drop_zero, List.take_succ_cons, List.take_zero] at f0
    obtain ⟨r, e, _⟩ := wt22 f0
    exact ⟨r, e⟩
theorem wt64 {n : Nat} {cs : List PV} (h : wt T n 64 cs) : ∃ x : Rule, cs = row_Rule x ∧ x.From.length < 9223372036854775808 := by
  obtain ⟨m, rfl, h1, h2⟩ := wt_st d64 h
  rw [sz64] at h1
  match cs, h1 with
  | [c0, c1, c2], _ =>
    have f0 := h2 (0, 3) (by simp)
    have f1 := h2 (1, 22) (by simp)
    have f2 := h2 (2, 3) (by simp)
    simp only [sz3, sz22, List.drop_zero, List.drop_succ_cons, List.take_succ_cons, List.take_zero] at f0 f1 f2
    obtain ⟨i, e0, _⟩ := wt_int d3 f0
    obtain ⟨xs, e1, hl⟩ := wt22 f1
    obtain ⟨j, e2, _⟩ := wt_int d3 f2
    injection e0 with e0; subst e0
    injection e1 with e1; subst e1
    injection e2 with e2; subst e2
    exact ⟨⟨i, xs, j⟩, rfl, hl⟩
theorem wt27 {n : Nat} {cs : List PV} (h : wt T n 27 cs) : ∃ a : Automaton, cs = row_Automaton a ∧ AW a := by
  obtain ⟨m, rfl, h1, h2⟩ := wt_st d27 h
  rw [sz27] at h1
  match cs, h1 with
  | [c0, c1, c2], _ =>
    have f0 := h2 (0, 3) (by simp)
    have f1 := h2 (1, 22) (by simp)
    have f2 := h2 (2, 25) (by simp)
    simp only [sz3, sz22, sz25, List.drop_zero, List.drop_succ_cons, List.take_succ_cons, List.take_zero] at f0 f1 f2
    obtain ⟨i, e0, _⟩ := wt_int d3 f0
    obtain ⟨xs, e1, hl⟩ := wt22 f1
    obtain ⟨rs, e2, hl2, hx⟩ := wt_slM (row := row_Rule) (P := fun x => x.From.length < 9223372036854775808) d25 f2 (fun m' r _ hr => wt64 hr)
    injection e0 with e0; subst e0
    injection e1 with e1; subst e1
    injection e2 with e2; subst e2
    exact ⟨⟨i, xs, rs⟩, rfl, hl, hl2, hx⟩
theorem law3 (pss : List (List PV)) (h : wtAll T [24, 27, 30] pss) : ∃ σ', call Try.prog T H (.fn 3) (argsOf T [24, 27, 30] pss) [] = some (.ret (.p (.lit (.bool true))), σ') := by
  obtain ⟨p1, r1, rfl, ⟨n1, w1⟩, p2, r2, rfl, ⟨n2, w2⟩, p3, r3, rfl, ⟨n3, w3⟩, rfl⟩ := h
  obtain ⟨r, rfl⟩ := wt24 w1
  obtain ⟨a, rfl, ha⟩ := wt27 w2
  obtain ⟨x, rfl, hx⟩ := wt30 n3 p3 w3
  have := spec3 (tdT x + 20) ⟨r⟩ a x true (relabels_law (tdT x) r a x ha (Nat.le_refl _) hx)
  rw [row_Tree_eq]
  exact ⟨[], this⟩
theorem closed : closedB T [3, 22, 24, 25, 27, 28, 30, 64] = true := by decide +kernel
theorem primOk : PrimOk Try.prog GL H := PrimOk.none fun f => hOf_pr (by kernel_rfl)
end Go.AM.S22

