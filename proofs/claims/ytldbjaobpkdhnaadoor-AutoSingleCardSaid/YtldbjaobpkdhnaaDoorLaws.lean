/- What the functions of this seat compute on the abstract machine, function by function, and the plain laws. -/
import Derived.Test.YtldbjaobpkdhnaaDoorAmEntry
import Derived.Test.YtldbjaobpkdhnaaDoorAmVal
import Derived.Test.YtldbjaobpkdhnaaDoorTab
import Derived.Test.YtldbjaobpkdhnaaDoorAmGen
set_option linter.unusedVariables false
set_option linter.unusedSimpArgs false
namespace Go.AM
open Go

theorem hOf_pr {f : FuncId} : ∀ {l : List (Nat × FH)}, (l.all fun p => p.2.pr.isNone) = true → (hOf l f).pr = none
  | [], _ => rfl
  | (k, h) :: r, ha => by
    rw [List.all_cons, Bool.and_eq_true] at ha
    unfold hOf
    split
    · have := ha.1
      cases hp : h.pr with
      | none => rfl
      | some p => simp [hp] at this
    · exact hOf_pr ha.2
section
variable {T : Tab}
theorem wt_int {n : Nat} {t : TypeId} {cs : List PV} (hd : (T.at t).d = .int .i64) (h : wt T n t cs) : ∃ i, cs = [iv i] ∧ -9223372036854775808 ≤ i ∧ i ≤ 9223372036854775807 := by
  cases n with
  | zero => exact h.elim
  | succ n =>
    unfold wt at h
    rw [hd] at h
    obtain ⟨i, rfl, h1, h2⟩ := h
    refine ⟨i, rfl, ?_⟩
    have e1 : IntKind.i64.min = -9223372036854775808 := by decide
    have e2 : IntKind.i64.max = 9223372036854775807 := by decide
    rw [e1] at h1; rw [e2] at h2
    exact ⟨h1, h2⟩
theorem wt_sl {n : Nat} {t e : TypeId} {cs : List PV} (hd : (T.at t).d = .sl e) (h : wt T n t cs) : ∃ m rows, n = m + 1 ∧ cs = [.sl none (T.at e).size rows] ∧ rows.length < 9223372036854775808 ∧ ∀ r, r ∈ rows → wt T m e r := by
  cases n with
  | zero => exact h.elim
  | succ n =>
    unfold wt at h
    rw [hd] at h
    obtain ⟨rows, rfl, h1, h2⟩ := h
    have : maxLen < 9223372036854775808 := by decide
    exact ⟨n, rows, rfl, rfl, by omega, h2⟩
theorem wt_st {n : Nat} {t : TypeId} {fs : List (Nat × TypeId)} {cs : List PV} (hd : (T.at t).d = .st fs) (h : wt T n t cs) : ∃ m, n = m + 1 ∧ cs.length = (T.at t).size ∧ ∀ f, f ∈ fs → wt T m f.2 ((cs.drop f.1).take (T.at f.2).size) := by
  cases n with
  | zero => exact h.elim
  | succ n =>
    unfold wt at h
    rw [hd] at h
    exact ⟨n, rfl, h⟩
theorem rows_map {α : Type} {row : α → List PV} {P : α → Prop} : ∀ {rows : List (List PV)}, (∀ r, r ∈ rows → ∃ x, r = row x ∧ P x) → ∃ xs : List α, rows = xs.map row ∧ ∀ x, x ∈ xs → P x
  | [], _ => ⟨[], rfl, by simp⟩
  | r :: rows, h => by
    obtain ⟨x, rfl, hx⟩ := h r (by simp)
    obtain ⟨xs, rfl, hxs⟩ := rows_map (rows := rows) (fun r' h' => h r' (List.mem_cons_of_mem _ h'))
    exact ⟨x :: xs, rfl, fun y hy => by
      rcases List.mem_cons.1 hy with rfl | hy
      · exact hx
      · exact hxs y hy⟩
/-- a slice of which the elements are known -/
theorem wt_slM {n : Nat} {t e : TypeId} {cs : List PV} {α : Type} {row : α → List PV} {P : α → Prop} (hd : (T.at t).d = .sl e) (h : wt T n t cs) (he : ∀ m r, m < n → wt T m e r → ∃ x, r = row x ∧ P x) : ∃ xs : List α, cs = [.sl none (T.at e).size (xs.map row)] ∧ xs.length < 9223372036854775808 ∧ ∀ x, x ∈ xs → P x := by
  obtain ⟨m, rows, rfl, rfl, h1, h2⟩ := wt_sl hd h
  obtain ⟨xs, rfl, hx⟩ := rows_map (row := row) (P := P) (fun r hr => he m r (by omega) (h2 r hr))
  exact ⟨xs, rfl, by simpa using h1, hx⟩
end
end Go.AM
namespace Go.AM.S03
open Go Go.Proofs Go.AM
set_option maxRecDepth 100000
set_option maxHeartbeats 4000000
set_option linter.unusedVariables false
theorem primOk : PrimOk Tryd.prog GL H := PrimOk.none fun f => hOf_pr (by kernel_rfl)


structure Tree where
  Sym : Int
  Kids : List Tree
mutual
def row_Tree : Tree → List PV
  | .mk f0 f1 => [iv f0, .sl none 2 (rows_Tree f1)]
def rows_Tree : List Tree → List (List PV)
  | [] => []
  | x :: r => row_Tree x :: rows_Tree r
end
theorem rows_Tree_map : ∀ l : List Tree, rows_Tree l = l.map row_Tree
  | [] => rfl
  | x :: r => by rw [rows_Tree, rows_Tree_map r]; rfl
theorem row_Tree_eq (x : Tree) : row_Tree x = [iv x.Sym, .sl none 2 (List.map row_Tree x.Kids)] := by
  cases x; rw [row_Tree]; simp only [rows_Tree_map]
attribute [go_sem] row_Tree_eq
structure Rule where
  Sym : Int
  From : List Int
  To : Int
def row_Rule (x : Rule) : List PV := [iv x.Sym, .sl none 1 (List.map rowI x.From), iv x.To]
theorem row_Rule_eq (x : Rule) : row_Rule x = [iv x.Sym, .sl none 1 (List.map rowI x.From), iv x.To] := rfl
attribute [go_sem] row_Rule_eq
structure Automaton where
  States : Int
  Final : List Int
  Rules : List Rule
def row_Automaton (x : Automaton) : List PV := [iv x.States, .sl none 1 (List.map rowI x.Final), .sl none 3 (List.map row_Rule x.Rules)]
theorem row_Automaton_eq (x : Automaton) : row_Automaton x = [iv x.States, .sl none 1 (List.map rowI x.Final), .sl none 3 (List.map row_Rule x.Rules)] := rfl
attribute [go_sem] row_Automaton_eq
structure Alphabet where
  Ranks : List Int
def row_Alphabet (x : Alphabet) : List PV := [.sl none 1 (List.map rowI x.Ranks)]
theorem row_Alphabet_eq (x : Alphabet) : row_Alphabet x = [.sl none 1 (List.map rowI x.Ranks)] := rfl
attribute [go_sem] row_Alphabet_eq
def pow10L : List Int := [1, 10, 100, 1000, 10000, 100000, 1000000, 10000000, 100000000, 1000000000, 10000000000, 100000000000, 1000000000000, 10000000000000, 100000000000000, 1000000000000000, 10000000000000000, 100000000000000000, 1000000000000000000, 10000000000000000000]
theorem T_gl0 : globOf T.gl 0 = some [.sl none 1 [[iv 0], [iv 2]]] := rfl
attribute [go_sem] T_gl0
theorem T_gl1 : globOf T.gl 1 = some [.lit (.int .u64 1), .lit (.int .u64 10), .lit (.int .u64 100), .lit (.int .u64 1000), .lit (.int .u64 10000), .lit (.int .u64 100000), .lit (.int .u64 1000000), .lit (.int .u64 10000000), .lit (.int .u64 100000000), .lit (.int .u64 1000000000), .lit (.int .u64 10000000000), .lit (.int .u64 100000000000), .lit (.int .u64 1000000000000), .lit (.int .u64 10000000000000), .lit (.int .u64 100000000000000), .lit (.int .u64 1000000000000000), .lit (.int .u64 10000000000000000), .lit (.int .u64 100000000000000000), .lit (.int .u64 1000000000000000000), .lit (.int .u64 10000000000000000000)] := rfl
attribute [go_sem] T_gl1
def ref01_count : Nat → Tree → Int → Option Int
  | 0, _, _ => none
  | n + 1, a0, a1 =>
    rangeL a0.Kids 1 (fun k1 i1 x1 (s1 : Int) n1 =>
      if s1 ≤ a1 then
        (ref01_count n x1 (w64 (a1 - s1))).bind fun v1 =>
        n1 (w64 (s1 + v1))
      else
        n1 s1) fun s1 =>
    some s1
theorem spec59 : ∀ (n : Nat), (∀ (a0 : Tree) (a1 : Int) (r : Int), ref01_count n a0 a1 = some r →
    call Tryd.prog T H (.fn 59) [.p (.agg [iv a0.Sym, .sl none 2 (List.map row_Tree a0.Kids)]), .p (iv a1)] [] = some (.ret (.p (iv r)), [])) := by
  intro n
  induction n with
  | zero => intro a0 a1 r h; cases h
  | succ n ih =>
    intro a0 a1 r h
    refine Sat.fn fun Q hQ => ?_
    rw [ref01_count] at h
    rw [call59]
    conv => arg 1; arg 7; unfold S03.c59 Tryd.f59; simp only [Option.getD_some]
    simp only [go_sem]
    refine run_rangeL (c := L59_0) (live := [1, 5, 9, 10, 11]) (by simp only [go_sem]) (M := fun i1 (s1 : Int) => [(1, .p (iv a1)), (5, .p (iv s1)), (9, .p (.sl none 2 (List.map row_Tree a0.Kids))), (10, .p (iv (a0.Kids.length : Int))), (11, .p (iv (i1 : Int)))]) (Z := fun i1 (s1 : Int) => [.cells [.p (iv a0.Sym), .p (.sl none 2 (List.map row_Tree a0.Kids))]]) (N := fun (s1 : Int) => ⟨[(5, .p (iv s1))], [.cells [.p (iv a0.Sym), .p (.sl none 2 (List.map row_Tree a0.Kids))]], [], none, false⟩) h rfl rfl (fun _ _ => rfl) ?_ ?_ ?_
    · intro s1 h
      try dsimp only at h ⊢
      simp only [go_sem]
      injection h with h; subst h
      exact Sat.ok hQ
    · intro K1 s1 hb1 he1
      try dsimp only
      conv => arg 1; arg 7; unfold L59_0 loopAt S03.c59 Tryd.f59; simp only [loopIn, Option.getD_some, if_true]
      simp only [go_sem, he1]
      exact hb1
    · intro K1 k1 i1 x1 s1 n1 hR1 hE1 hb1 hx1 hi1 hw1 ih1 h
      try dsimp only at h ⊢
      conv => arg 1; arg 7; unfold L59_0 loopAt S03.c59 Tryd.f59; simp only [loopIn, Option.getD_some, if_true]
      by_cases c1 : s1 ≤ a1
      · have h := iteT h c1
        obtain ⟨v1, e_v1, h⟩ := ob h
        have e_v1c : call Tryd.prog T H (.fn 59) [.p (.agg [iv x1.Sym, .sl none 2 (List.map row_Tree x1.Kids)]), .p (iv (w64 (a1 - s1)))] [] = some (.ret (.p (iv v1)), []) := ih x1 (w64 (a1 - s1)) v1 e_v1
        simp only [go_sem, hx1, hi1, hw1, c1, e_v1c, hR1, hE1]
        exact ih1 (w64 (s1 + v1)) h
      · have h := iteF h c1
        simp only [go_sem, hx1, hi1, hw1, c1, hR1, hE1]
        exact ih1 s1 h

def ref01_Few (n : Nat) (a0 : Tree) (a1 : Int) : Option Bool :=
  (ref01_count n a0 a1).bind fun v1 =>
  some (decide (v1 ≤ a1))
theorem spec20 (n : Nat) (a0 : Tree) (a1 : Int) (r : Bool) (h : ref01_Few n a0 a1 = some r) :
    call Tryd.prog T H (.fn 20) [.p (.agg [iv a0.Sym, .sl none 2 (List.map row_Tree a0.Kids)]), .p (iv a1)] [] = some (.ret (.p (bv r)), []) := by
  refine Sat.fn fun Q hQ => ?_
  unfold ref01_Few at h
  rw [call20]
  conv => arg 1; arg 7; unfold S03.c20 Tryd.f20; simp only [Option.getD_some]
  obtain ⟨v1, e_v1, h⟩ := ob h
  have e_v1c : call Tryd.prog T H (.fn 59) [.p (.agg [iv a0.Sym, .sl none 2 (List.map row_Tree a0.Kids)]), .p (iv a1)] [] = some (.ret (.p (iv v1)), []) := spec59 n a0 a1 v1 e_v1
  simp only [go_sem, e_v1c]
  injection h with h; subst h
  exact Sat.ok hQ

def tree_ValidAlphabet_1 (a0 : Int) : Option Bool :=
  if a0 < 0 then
    some true
  else
    some (decide (3 < a0))
theorem spec90 (a0 : Int) (r : Bool) (h : tree_ValidAlphabet_1 a0 = some r) :
    call Tryd.prog T H (.fn 90) [.p (iv a0)] [] = some (.ret (.p (bv r)), []) := by
  refine Sat.fn fun Q hQ => ?_
  unfold tree_ValidAlphabet_1 at h
  rw [call90]
  conv => arg 1; arg 7; unfold S03.c90 Tryd.f90; simp only [Option.getD_some]
  by_cases c1 : a0 < 0
  · have h := iteT h c1
    simp only [go_sem, c1]
    injection h with h; subst h
    exact Sat.ok hQ
  · have h := iteF h c1
    simp only [go_sem, c1]
    injection h with h; subst h
    exact Sat.ok hQ

def tree_ValidAlphabet (a0 : Alphabet) : Option Bool :=
  if (a0.Ranks.length : Int) ≤ 12 then
    jn (fun (u1 : Int) =>
      some (!(decide (0 ≤ u1)))) fun j1 =>
    rangeL a0.Ranks () (fun k1 i1 x1 (s1 : Unit) n1 =>
      (tree_ValidAlphabet_1 x1).bind fun v1 =>
      if v1 = true then
        j1 (i1 : Int)
      else
        n1 ()) fun s1 =>
    j1 (-1)
  else
    some false
theorem spec74 (a0 : Alphabet) (r : Bool) (h : tree_ValidAlphabet a0 = some r) :
    call Tryd.prog T H (.fn 74) [.p (.agg [.sl none 1 (List.map rowI a0.Ranks)])] [] = some (.ret (.p (bv r)), []) := by
  refine Sat.fn fun Q hQ => ?_
  unfold tree_ValidAlphabet at h
  rw [call74]
  conv => arg 1; arg 7; unfold S03.c74 Tryd.f74; simp only [Option.getD_some]
  by_cases c1 : (a0.Ranks.length : Int) ≤ 12
  · have h := iteT h c1
    simp only [go_sem, c1]
    refine Sat.callc ?_
    rw [call55]
    conv => arg 1; arg 7; unfold S03.c55 Tryd.f55; simp only [Option.getD_some]
    simp only [go_sem]
    refine Sat.callj (V := fun (u1 : Int) => .p (iv u1)) (Z := fun (u1 : Int) => [.cells [.p (.sl none 1 (List.map rowI a0.Ranks))]]) h ?_ ?_
    · intro u1 h
      try dsimp only at h ⊢
      simp only [go_sem]
      refine Sat.ok ?_
      dsimp only
      simp only [go_sem]
      injection h with h; subst h
      exact Sat.ok hQ
    · intro j1 h
      rw [call81]
      conv => arg 1; arg 7; unfold S03.c81 Tryd.f81; simp only [Option.getD_some]
      simp only [go_sem]
      refine run_rangeL (c := L81_0) (live := [0, 1, 7, 8]) (by simp only [go_sem]) (M := fun i1 (s1 : Unit) => [(0, .p (.sl none 1 (List.map rowI a0.Ranks))), (1, .p (.fn 90)), (7, .p (iv (a0.Ranks.length : Int))), (8, .p (iv (i1 : Int)))]) (Z := fun i1 (s1 : Unit) => [.cells [.p (.sl none 1 (List.map rowI a0.Ranks))]]) (N := fun (s1 : Unit) => ⟨[], [.cells [.p (.sl none 1 (List.map rowI a0.Ranks))]], [], none, false⟩) h rfl rfl (fun _ _ => rfl) ?_ ?_ ?_
      · intro s1 h
        try dsimp only at h ⊢
        simp only [go_sem]
        exact Sat.ok ⟨(-1), rfl, h⟩
      · intro K1 s1 hb1 he1
        try dsimp only
        conv => arg 1; arg 7; unfold L81_0 loopAt S03.c81 Tryd.f81; simp only [loopIn, Option.getD_some, if_true]
        simp only [go_sem, he1]
        exact hb1
      · intro K1 k1 i1 x1 s1 n1 hR1 hE1 hb1 hx1 hi1 hw1 ih1 h
        try dsimp only at h ⊢
        conv => arg 1; arg 7; unfold L81_0 loopAt S03.c81 Tryd.f81; simp only [loopIn, Option.getD_some, if_true]
        obtain ⟨v1, e_v1, h⟩ := ob h
        have e_v1c : call Tryd.prog T H (.fn 90) [.p (iv x1)] [] = some (.ret (.p (bv v1)), []) := spec90 x1 v1 e_v1
        by_cases c2 : v1 = true
        · have h := iteT h c2
          simp only [go_sem, hx1, hi1, hw1, e_v1c, c2, hR1, hE1]
          exact Sat.ok ⟨(i1 : Int), rfl, h⟩
        · have h := iteF h c2
          have c2 := eq_false_of_ne_true c2
          simp only [go_sem, hx1, hi1, hw1, e_v1c, c2, hR1, hE1]
          exact ih1 () h
  · have h := iteF h c1
    simp only [go_sem, c1]
    injection h with h; subst h
    exact Sat.ok hQ

def auto_Valid (a0 : Alphabet) (a1 : Automaton) : Option Bool :=
  (tree_ValidAlphabet a0).bind fun v1 =>
  if v1 = true then
    if a1.States < 0 then
      some false
    else
      if 300 < a1.States then
        some false
      else
        if 20000 < (a1.Rules.length : Int) then
          some false
        else
          rangeL a1.Final () (fun k1 i1 x1 (s1 : Unit) n1 =>
            jn (fun (u3 : Bool) =>
              if u3 = true then
                if 0 < (i1 : Int) then
                  (idx a1.Final (w64 ((i1 : Int) - 1))).bind fun v3 =>
                  if x1 ≤ v3 then
                    some false
                  else
                    n1 ()
                else
                  n1 ()
              else
                some false) fun j3 =>
            if 0 ≤ x1 then
              j3 (decide (x1 < a1.States))
            else
              j3 false) fun s1 =>
          rangeL a1.Rules () (fun k3 i3 x3 (s3 : Unit) n3 =>
            if x3.Sym < 0 then
              some false
            else
              if (a0.Ranks.length : Int) ≤ x3.Sym then
                some false
              else
                (idx a0.Ranks x3.Sym).bind fun v2 =>
                if (x3.From.length : Int) = v2 then
                  jn (fun (u1 : Bool) =>
                    if u1 = true then
                      rangeL x3.From () (fun k4 i4 x4 (s4 : Unit) n4 =>
                        jn (fun (u2 : Bool) =>
                          if u2 = true then
                            n4 ()
                          else
                            some false) fun j2 =>
                        if 0 ≤ x4 then
                          j2 (decide (x4 < a1.States))
                        else
                          j2 false) fun s4 =>
                      n3 ()
                    else
                      some false) fun j1 =>
                  if 0 ≤ x3.To then
                    j1 (decide (x3.To < a1.States))
                  else
                    j1 false
                else
                  some false) fun s3 =>
          some true
  else
    some false
theorem spec35 (a0 : Alphabet) (a1 : Automaton) (r : Bool) (h : auto_Valid a0 a1 = some r) :
    call Tryd.prog T H (.fn 35) [.p (.agg [.sl none 1 (List.map rowI a0.Ranks)]), .p (.agg [iv a1.States, .sl none 1 (List.map rowI a1.Final), .sl none 3 (List.map row_Rule a1.Rules)])] [] = some (.ret (.p (bv r)), []) := by
  refine Sat.fn fun Q hQ => ?_
  unfold auto_Valid at h
  rw [call35]
  conv => arg 1; arg 7; unfold S03.c35 Tryd.f35; simp only [Option.getD_some]
  obtain ⟨v1, e_v1, h⟩ := ob h
  have e_v1c : call Tryd.prog T H (.fn 74) [.p (.agg [.sl none 1 (List.map rowI a0.Ranks)])] [] = some (.ret (.p (bv v1)), []) := spec74 a0 v1 e_v1
  by_cases c1 : v1 = true
  · have h := iteT h c1
    by_cases c2 : a1.States < 0
    · have h := iteT h c2
      simp only [go_sem, e_v1c, c1, c2]
      injection h with h; subst h
      exact Sat.ok hQ
    · have h := iteF h c2
      by_cases c3 : 300 < a1.States
      · have h := iteT h c3
        simp only [go_sem, e_v1c, c1, c2, c3]
        injection h with h; subst h
        exact Sat.ok hQ
      · have h := iteF h c3
        by_cases c4 : 20000 < (a1.Rules.length : Int)
        · have h := iteT h c4
          simp only [go_sem, e_v1c, c1, c2, c3, c4]
          injection h with h; subst h
          exact Sat.ok hQ
        · have h := iteF h c4
          simp only [go_sem, e_v1c, c1, c2, c3, c4]
          refine run_rangeL (c := L35_0) (live := [2, 3, 5, 33, 34, 35]) (by simp only [go_sem]) (M := fun i1 (s1 : Unit) => [(2, .ptr 0 0), (3, .ptr 1 0), (5, .fn 75 [.ptr 1 0]), (33, .p (.sl none 1 (List.map rowI a1.Final))), (34, .p (iv (a1.Final.length : Int))), (35, .p (iv (i1 : Int)))]) (Z := fun i1 (s1 : Unit) => [.cells [.p (.sl none 1 (List.map rowI a0.Ranks))], .cells [.p (iv a1.States), .p (.sl none 1 (List.map rowI a1.Final)), .p (.sl none 3 (List.map row_Rule a1.Rules))]]) (N := fun (s1 : Unit) => ⟨[(2, .ptr 0 0), (3, .ptr 1 0), (5, .fn 75 [.ptr 1 0])], [.cells [.p (.sl none 1 (List.map rowI a0.Ranks))], .cells [.p (iv a1.States), .p (.sl none 1 (List.map rowI a1.Final)), .p (.sl none 3 (List.map row_Rule a1.Rules))]], [], none, false⟩) h rfl rfl (fun _ _ => rfl) ?_ ?_ ?_
          · intro s1 h
            try dsimp only at h ⊢
            simp only [go_sem]
            refine run_rangeL (c := L35_2) (live := [2, 5, 60, 61, 62]) (by simp only [go_sem]) (M := fun i3 (s3 : Unit) => [(2, .ptr 0 0), (5, .fn 75 [.ptr 1 0]), (60, .p (.sl none 3 (List.map row_Rule a1.Rules))), (61, .p (iv (a1.Rules.length : Int))), (62, .p (iv (i3 : Int)))]) (Z := fun i3 (s3 : Unit) => [.cells [.p (.sl none 1 (List.map rowI a0.Ranks))], .cells [.p (iv a1.States), .p (.sl none 1 (List.map rowI a1.Final)), .p (.sl none 3 (List.map row_Rule a1.Rules))]]) (N := fun (s3 : Unit) => ⟨[], [.cells [.p (.sl none 1 (List.map rowI a0.Ranks))], .cells [.p (iv a1.States), .p (.sl none 1 (List.map rowI a1.Final)), .p (.sl none 3 (List.map row_Rule a1.Rules))]], [], none, false⟩) h rfl rfl (fun _ _ => rfl) ?_ ?_ ?_
            · intro s3 h
              try dsimp only at h ⊢
              simp only [go_sem]
              injection h with h; subst h
              exact Sat.ok hQ
            · intro K3 s3 hb3 he3
              try dsimp only
              conv => arg 1; arg 7; unfold L35_2 loopAt S03.c35 Tryd.f35; simp only [loopIn, Option.getD_some, if_true]
              simp only [go_sem, he3]
              exact hb3
            · intro K3 k3 i3 x3 s3 n3 hR3 hE3 hb3 hx3 hi3 hw3 ih3 h
              try dsimp only at h ⊢
              conv => arg 1; arg 7; unfold L35_2 loopAt S03.c35 Tryd.f35; simp only [loopIn, Option.getD_some, if_true]
              by_cases c5 : x3.Sym < 0
              · have h := iteT h c5
                simp only [go_sem, hx3, hi3, hw3, c5, hR3, hE3]
                injection h with h; subst h
                exact Sat.ok hQ
              · have h := iteF h c5
                by_cases c6 : (a0.Ranks.length : Int) ≤ x3.Sym
                · have h := iteT h c6
                  simp only [go_sem, hx3, hi3, hw3, c5, c6, hR3, hE3]
                  injection h with h; subst h
                  exact Sat.ok hQ
                · have h := iteF h c6
                  obtain ⟨v2, e_v2, h⟩ := ob h
                  obtain ⟨e_v2a, e_v2b⟩ := idx_some e_v2
                  by_cases c7 : (x3.From.length : Int) = v2
                  · have h := iteT h c7
                    have c7b : ((x3.From.length : Int) != v2) = false := bneF c7
                    simp only [go_sem, hx3, hi3, hw3, c5, c6, e_v2a, e_v2b, c7b, hR3, hE3]
                    refine Sat.callj (V := fun (u1 : Bool) => .p (bv u1)) (Z := fun (u1 : Bool) => [.cells [.p (.sl none 1 (List.map rowI a0.Ranks))], .cells [.p (iv a1.States), .p (.sl none 1 (List.map rowI a1.Final)), .p (.sl none 3 (List.map row_Rule a1.Rules))], .cells [.p (iv x3.Sym), .p (.sl none 1 (List.map rowI x3.From)), .p (iv x3.To)]]) h ?_ ?_
                    · intro u1 h
                      try dsimp only at h ⊢
                      by_cases c8 : u1 = true
                      · have h := iteT h c8
                        simp only [go_sem, c8, hw3, hR3, hE3]
                        refine run_rangeL (c := L35_4) (live := [2, 5, 60, 61, 62, 97, 98, 99]) (by simp only [go_sem]) (M := fun i4 (s4 : Unit) => [(2, .ptr 0 0), (5, .fn 75 [.ptr 1 0]), (60, .p (.sl none 3 (List.map row_Rule a1.Rules))), (61, .p (iv (a1.Rules.length : Int))), (62, .p (iv (i3 : Int))), (97, .p (.sl none 1 (List.map rowI x3.From))), (98, .p (iv (x3.From.length : Int))), (99, .p (iv (i4 : Int)))]) (Z := fun i4 (s4 : Unit) => [.cells [.p (.sl none 1 (List.map rowI a0.Ranks))], .cells [.p (iv a1.States), .p (.sl none 1 (List.map rowI a1.Final)), .p (.sl none 3 (List.map row_Rule a1.Rules))], .cells [.p (iv x3.Sym), .p (.sl none 1 (List.map rowI x3.From)), .p (iv x3.To)]]) (N := fun (s4 : Unit) => ⟨[(2, .ptr 0 0), (5, .fn 75 [.ptr 1 0]), (60, .p (.sl none 3 (List.map row_Rule a1.Rules))), (61, .p (iv (a1.Rules.length : Int))), (62, .p (iv (i3 : Int)))], [.cells [.p (.sl none 1 (List.map rowI a0.Ranks))], .cells [.p (iv a1.States), .p (.sl none 1 (List.map rowI a1.Final)), .p (.sl none 3 (List.map row_Rule a1.Rules))], .cells [.p (iv x3.Sym), .p (.sl none 1 (List.map rowI x3.From)), .p (iv x3.To)]], [], none, false⟩) h rfl rfl (fun _ _ => rfl) ?_ ?_ ?_
                        · intro s4 h
                          try dsimp only at h ⊢
                          simp only [go_sem, hw3, hR3, hE3]
                          exact ih3 () h
                        · intro K4 s4 hb4 he4
                          try dsimp only
                          conv => arg 1; arg 7; unfold L35_4 loopAt S03.c35 Tryd.f35; simp only [loopIn, Option.getD_some, if_true]
                          simp only [go_sem, he4]
                          exact hb4
                        · intro K4 k4 i4 x4 s4 n4 hR4 hE4 hb4 hx4 hi4 hw4 ih4 h
                          try dsimp only at h ⊢
                          conv => arg 1; arg 7; unfold L35_4 loopAt S03.c35 Tryd.f35; simp only [loopIn, Option.getD_some, if_true]
                          simp only [go_sem, hx4, hi4, hw4, hw3, hR3, hE3, hR4, hE4]
                          refine Sat.callj (V := fun (u2 : Bool) => .p (bv u2)) (Z := fun (u2 : Bool) => [.cells [.p (.sl none 1 (List.map rowI a0.Ranks))], .cells [.p (iv a1.States), .p (.sl none 1 (List.map rowI a1.Final)), .p (.sl none 3 (List.map row_Rule a1.Rules))], .cells [.p (iv x3.Sym), .p (.sl none 1 (List.map rowI x3.From)), .p (iv x3.To)]]) h ?_ ?_
                          · intro u2 h
                            try dsimp only at h ⊢
                            by_cases c9 : u2 = true
                            · have h := iteT h c9
                              simp only [go_sem, c9, hw3, hR3, hE3, hw4, hR4, hE4]
                              exact ih4 () h
                            · have h := iteF h c9
                              have c9 := eq_false_of_ne_true c9
                              simp only [go_sem, c9, hw3, hR3, hE3, hw4, hR4, hE4]
                              injection h with h; subst h
                              exact Sat.ok hQ
                          · intro j2 h
                            rw [call75]
                            conv => arg 1; arg 7; unfold S03.c75 Tryd.f75; simp only [Option.getD_some]
                            by_cases c10 : 0 ≤ x4
                            · have h := iteT h c10
                              simp only [go_sem, c10]
                              exact Sat.ok ⟨(decide (x4 < a1.States)), rfl, h⟩
                            · have h := iteF h c10
                              simp only [go_sem, c10]
                              exact Sat.ok ⟨false, rfl, h⟩
                      · have h := iteF h c8
                        have c8 := eq_false_of_ne_true c8
                        simp only [go_sem, c8, hw3, hR3, hE3]
                        injection h with h; subst h
                        exact Sat.ok hQ
                    · intro j1 h
                      rw [call75]
                      conv => arg 1; arg 7; unfold S03.c75 Tryd.f75; simp only [Option.getD_some]
                      by_cases c11 : 0 ≤ x3.To
                      · have h := iteT h c11
                        simp only [go_sem, c11]
                        exact Sat.ok ⟨(decide (x3.To < a1.States)), rfl, h⟩
                      · have h := iteF h c11
                        simp only [go_sem, c11]
                        exact Sat.ok ⟨false, rfl, h⟩
                  · have h := iteF h c7
                    have c7b : ((x3.From.length : Int) != v2) = true := bneT c7
                    simp only [go_sem, hx3, hi3, hw3, c5, c6, e_v2a, e_v2b, c7b, hR3, hE3]
                    injection h with h; subst h
                    exact Sat.ok hQ
          · intro K1 s1 hb1 he1
            try dsimp only
            conv => arg 1; arg 7; unfold L35_0 loopAt S03.c35 Tryd.f35; simp only [loopIn, Option.getD_some, if_true]
            simp only [go_sem, he1]
            exact hb1
          · intro K1 k1 i1 x1 s1 n1 hR1 hE1 hb1 hx1 hi1 hw1 ih1 h
            try dsimp only at h ⊢
            conv => arg 1; arg 7; unfold L35_0 loopAt S03.c35 Tryd.f35; simp only [loopIn, Option.getD_some, if_true]
            simp only [go_sem, hx1, hi1, hw1, hR1, hE1]
            refine Sat.callj (V := fun (u3 : Bool) => .p (bv u3)) (Z := fun (u3 : Bool) => [.cells [.p (.sl none 1 (List.map rowI a0.Ranks))], .cells [.p (iv a1.States), .p (.sl none 1 (List.map rowI a1.Final)), .p (.sl none 3 (List.map row_Rule a1.Rules))]]) h ?_ ?_
            · intro u3 h
              try dsimp only at h ⊢
              by_cases c12 : u3 = true
              · have h := iteT h c12
                by_cases c13 : 0 < (i1 : Int)
                · have h := iteT h c13
                  obtain ⟨v3, e_v3, h⟩ := ob h
                  obtain ⟨e_v3a, e_v3b⟩ := idx_some e_v3
                  by_cases c14 : x1 ≤ v3
                  · have h := iteT h c14
                    simp only [go_sem, c12, c13, e_v3a, e_v3b, c14, hw1, hR1, hE1]
                    injection h with h; subst h
                    exact Sat.ok hQ
                  · have h := iteF h c14
                    simp only [go_sem, c12, c13, e_v3a, e_v3b, c14, hw1, hR1, hE1]
                    exact ih1 () h
                · have h := iteF h c13
                  simp only [go_sem, c12, c13, hw1, hR1, hE1]
                  exact ih1 () h
              · have h := iteF h c12
                have c12 := eq_false_of_ne_true c12
                simp only [go_sem, c12, hw1, hR1, hE1]
                injection h with h; subst h
                exact Sat.ok hQ
            · intro j3 h
              rw [call75]
              conv => arg 1; arg 7; unfold S03.c75 Tryd.f75; simp only [Option.getD_some]
              by_cases c15 : 0 ≤ x1
              · have h := iteT h c15
                simp only [go_sem, c15]
                exact Sat.ok ⟨(decide (x1 < a1.States)), rfl, h⟩
              · have h := iteF h c15
                simp only [go_sem, c15]
                exact Sat.ok ⟨false, rfl, h⟩
  · have h := iteF h c1
    have c1 := eq_false_of_ne_true c1
    simp only [go_sem, e_v1c, c1]
    injection h with h; subst h
    exact Sat.ok hQ

def tree_formed : Nat → Alphabet → Tree → Int → Option (Bool × Int)
  | 0, _, _, _ => none
  | n + 1, a0, a1, a2 =>
    if (w64 (a2 - 1)) < 0 then
      some (false, w64 (a2 - 1))
    else
      if a1.Sym < 0 then
        some (false, w64 (a2 - 1))
      else
        if (a0.Ranks.length : Int) ≤ a1.Sym then
          some (false, w64 (a2 - 1))
        else
          (idx a0.Ranks a1.Sym).bind fun v1 =>
          if (a1.Kids.length : Int) = v1 then
            rangeL a1.Kids (w64 (a2 - 1)) (fun k1 i1 x1 (s1 : Int) n1 =>
              (tree_formed n a0 x1 s1).bind fun v2 =>
              if v2.1 = true then
                n1 v2.2
              else
                some (false, v2.2)) fun s1 =>
            some (true, s1)
          else
            some (false, w64 (a2 - 1))
theorem spec82 : ∀ (n : Nat), (∀ (σ : List AObj) (p2 : Nat) (hp2 : p2 < σ.length) (a0 : Alphabet) (a1 : Tree) (a2 : Int) (r : Bool × Int), tree_formed n a0 a1 a2 = some r →
    call Tryd.prog T H (.fn 82) [.p (.agg [.sl none 1 (List.map rowI a0.Ranks)]), .p (.agg [iv a1.Sym, .sl none 2 (List.map row_Tree a1.Kids)]), .ptr p2 0] (List.set σ p2 (.cells [.p (iv a2)])) = some (.ret (.p (bv r.1)), (List.set σ p2 (.cells [.p (iv r.2)])))) := by
  intro n
  induction n with
  | zero => intro σ p2 hp2 a0 a1 a2 r h; cases h
  | succ n ih =>
    intro σ p2 hp2 a0 a1 a2 r h
    refine Sat.fn fun Q hQ => ?_
    rw [tree_formed] at h
    rw [call82]
    conv => arg 1; arg 7; unfold S03.c82 Tryd.f82; simp only [Option.getD_some]
    by_cases c1 : (w64 (a2 - 1)) < 0
    · have h := iteT h c1
      simp only [go_sem, c1, hp2, fun k => Nat.lt_add_right k hp2, Nat.not_le_of_lt hp2, fun k => Nat.not_le_of_lt (Nat.lt_add_right k hp2)]
      injection h with h; subst h
      exact Sat.ok hQ
    · have h := iteF h c1
      by_cases c2 : a1.Sym < 0
      · have h := iteT h c2
        simp only [go_sem, c1, c2, hp2, fun k => Nat.lt_add_right k hp2, Nat.not_le_of_lt hp2, fun k => Nat.not_le_of_lt (Nat.lt_add_right k hp2)]
        injection h with h; subst h
        exact Sat.ok hQ
      · have h := iteF h c2
        by_cases c3 : (a0.Ranks.length : Int) ≤ a1.Sym
        · have h := iteT h c3
          simp only [go_sem, c1, c2, c3, hp2, fun k => Nat.lt_add_right k hp2, Nat.not_le_of_lt hp2, fun k => Nat.not_le_of_lt (Nat.lt_add_right k hp2)]
          injection h with h; subst h
          exact Sat.ok hQ
        · have h := iteF h c3
          obtain ⟨v1, e_v1, h⟩ := ob h
          obtain ⟨e_v1a, e_v1b⟩ := idx_some e_v1
          by_cases c4 : (a1.Kids.length : Int) = v1
          · have h := iteT h c4
            have c4b : ((a1.Kids.length : Int) != v1) = false := bneF c4
            simp only [go_sem, c1, c2, c3, e_v1a, e_v1b, c4b, hp2, fun k => Nat.lt_add_right k hp2, Nat.not_le_of_lt hp2, fun k => Nat.not_le_of_lt (Nat.lt_add_right k hp2)]
            refine run_rangeL (c := L82_0) (live := [2, 3, 44, 45, 46]) (by simp only [go_sem]) (M := fun i1 (s1 : Int) => [(2, .ptr p2 0), (3, .ptr σ.length 0), (44, .p (.sl none 2 (List.map row_Tree a1.Kids))), (45, .p (iv (a1.Kids.length : Int))), (46, .p (iv (i1 : Int)))]) (Z := fun i1 (s1 : Int) => ((List.set σ p2 (.cells [.p (iv s1)])) ++ [.cells [.p (.sl none 1 (List.map rowI a0.Ranks))], .cells [.p (iv a1.Sym), .p (.sl none 2 (List.map row_Tree a1.Kids))]])) (N := fun (s1 : Int) => ⟨[], ((List.set σ p2 (.cells [.p (iv s1)])) ++ [.cells [.p (.sl none 1 (List.map rowI a0.Ranks))], .cells [.p (iv a1.Sym), .p (.sl none 2 (List.map row_Tree a1.Kids))]]), [], none, false⟩) h rfl rfl (fun _ _ => rfl) ?_ ?_ ?_
            · intro s1 h
              try dsimp only at h ⊢
              simp only [go_sem, hp2, fun k => Nat.lt_add_right k hp2, Nat.not_le_of_lt hp2, fun k => Nat.not_le_of_lt (Nat.lt_add_right k hp2)]
              injection h with h; subst h
              exact Sat.ok hQ
            · intro K1 s1 hb1 he1
              try dsimp only
              conv => arg 1; arg 7; unfold L82_0 loopAt S03.c82 Tryd.f82; simp only [loopIn, Option.getD_some, if_true]
              simp only [go_sem, he1, hp2, fun k => Nat.lt_add_right k hp2, Nat.not_le_of_lt hp2, fun k => Nat.not_le_of_lt (Nat.lt_add_right k hp2)]
              exact hb1
            · intro K1 k1 i1 x1 s1 n1 hR1 hE1 hb1 hx1 hi1 hw1 ih1 h
              try dsimp only at h ⊢
              conv => arg 1; arg 7; unfold L82_0 loopAt S03.c82 Tryd.f82; simp only [loopIn, Option.getD_some, if_true]
              obtain ⟨v2, e_v2, h⟩ := ob h
              have e_v2c : call Tryd.prog T H (.fn 82) [.p (.agg [.sl none 1 (List.map rowI a0.Ranks)]), .p (.agg [iv x1.Sym, .sl none 2 (List.map row_Tree x1.Kids)]), .ptr p2 0] ((List.set σ p2 (.cells [.p (iv s1)])) ++ [.cells [.p (.sl none 1 (List.map rowI a0.Ranks))], .cells [.p (iv a1.Sym), .p (.sl none 2 (List.map row_Tree a1.Kids))], .cells [.p (iv x1.Sym), .p (.sl none 2 (List.map row_Tree x1.Kids))]]) = some (.ret (.p (bv v2.1)), ((List.set σ p2 (.cells [.p (iv v2.2)])) ++ [.cells [.p (.sl none 1 (List.map rowI a0.Ranks))], .cells [.p (iv a1.Sym), .p (.sl none 2 (List.map row_Tree a1.Kids))], .cells [.p (iv x1.Sym), .p (.sl none 2 (List.map row_Tree x1.Kids))]])) := by have q := ih ((List.set σ p2 (.cells [.p (iv s1)])) ++ [.cells [.p (.sl none 1 (List.map rowI a0.Ranks))], .cells [.p (iv a1.Sym), .p (.sl none 2 (List.map row_Tree a1.Kids))], .cells [.p (iv x1.Sym), .p (.sl none 2 (List.map row_Tree x1.Kids))]]) p2 (by simp only [List.length_append, List.length_set, List.length_cons, List.length_nil]; omega) a0 x1 s1 v2 e_v2; first | (simp only [go_sem, hp2, fun k => Nat.lt_add_right k hp2, Nat.not_le_of_lt hp2, fun k => Nat.not_le_of_lt (Nat.lt_add_right k hp2)] at q ⊢; exact q) | exact q
              by_cases c5 : v2.1 = true
              · have h := iteT h c5
                simp only [go_sem, hx1, hi1, hw1, e_v2c, c5, hR1, hE1, hp2, fun k => Nat.lt_add_right k hp2, Nat.not_le_of_lt hp2, fun k => Nat.not_le_of_lt (Nat.lt_add_right k hp2)]
                exact ih1 v2.2 h
              · have h := iteF h c5
                have c5 := eq_false_of_ne_true c5
                simp only [go_sem, hx1, hi1, hw1, e_v2c, c5, hR1, hE1, hp2, fun k => Nat.lt_add_right k hp2, Nat.not_le_of_lt hp2, fun k => Nat.not_le_of_lt (Nat.lt_add_right k hp2)]
                injection h with h; subst h
                exact Sat.ok hQ
          · have h := iteF h c4
            have c4b : ((a1.Kids.length : Int) != v1) = true := bneT c4
            simp only [go_sem, c1, c2, c3, e_v1a, e_v1b, c4b, hp2, fun k => Nat.lt_add_right k hp2, Nat.not_le_of_lt hp2, fun k => Nat.not_le_of_lt (Nat.lt_add_right k hp2)]
            injection h with h; subst h
            exact Sat.ok hQ

def tree_Valid (n : Nat) (a0 : Alphabet) (a1 : Tree) : Option Bool :=
  (tree_ValidAlphabet a0).bind fun v1 =>
  if v1 = true then
    (tree_formed n a0 a1 300).bind fun v2 =>
    some v2.1
  else
    some false
theorem spec60 (n : Nat) (a0 : Alphabet) (a1 : Tree) (r : Bool) (h : tree_Valid n a0 a1 = some r) :
    call Tryd.prog T H (.fn 60) [.p (.agg [.sl none 1 (List.map rowI a0.Ranks)]), .p (.agg [iv a1.Sym, .sl none 2 (List.map row_Tree a1.Kids)])] [] = some (.ret (.p (bv r)), []) := by
  refine Sat.fn fun Q hQ => ?_
  unfold tree_Valid at h
  rw [call60]
  conv => arg 1; arg 7; unfold S03.c60 Tryd.f60; simp only [Option.getD_some]
  obtain ⟨v1, e_v1, h⟩ := ob h
  have e_v1c : call Tryd.prog T H (.fn 74) [.p (.agg [.sl none 1 (List.map rowI a0.Ranks)])] [] = some (.ret (.p (bv v1)), []) := spec74 a0 v1 e_v1
  by_cases c1 : v1 = true
  · have h := iteT h c1
    obtain ⟨v2, e_v2, h⟩ := ob h
    have e_v2c : call Tryd.prog T H (.fn 82) [.p (.agg [.sl none 1 (List.map rowI a0.Ranks)]), .p (.agg [iv a1.Sym, .sl none 2 (List.map row_Tree a1.Kids)]), .ptr 2 0] [.cells [.p (.sl none 1 (List.map rowI a0.Ranks))], .cells [.p (iv a1.Sym), .p (.sl none 2 (List.map row_Tree a1.Kids))], .cells [.p (iv 300)]] = some (.ret (.p (bv v2.1)), [.cells [.p (.sl none 1 (List.map rowI a0.Ranks))], .cells [.p (iv a1.Sym), .p (.sl none 2 (List.map row_Tree a1.Kids))], .cells [.p (iv v2.2)]]) := by have q := spec82 n [.cells [.p (.sl none 1 (List.map rowI a0.Ranks))], .cells [.p (iv a1.Sym), .p (.sl none 2 (List.map row_Tree a1.Kids))], .cells [.p (iv 300)]] 2 (by simp only [List.length_append, List.length_set, List.length_cons, List.length_nil]; omega) a0 a1 300 v2 e_v2; first | (simp only [go_sem] at q ⊢; exact q) | exact q
    simp only [go_sem, e_v1c, c1, e_v2c]
    injection h with h; subst h
    exact Sat.ok hQ
  · have h := iteF h c1
    have c1 := eq_false_of_ne_true c1
    simp only [go_sem, e_v1c, c1]
    injection h with h; subst h
    exact Sat.ok hQ

def auto_asked (n : Nat) (a0 : Alphabet) (a1 : Automaton) (a2 : Tree) : Option Int :=
  (auto_Valid a0 a1).bind fun v1 =>
  if v1 = true then
    (tree_Valid n a0 a2).bind fun v2 =>
    if v2 = true then
      some 0
    else
      some 1
  else
    some 1
theorem spec49 (n : Nat) (a0 : Alphabet) (a1 : Automaton) (a2 : Tree) (r : Int) (h : auto_asked n a0 a1 a2 = some r) :
    call Tryd.prog T H (.fn 49) [.p (.agg [.sl none 1 (List.map rowI a0.Ranks)]), .p (.agg [iv a1.States, .sl none 1 (List.map rowI a1.Final), .sl none 3 (List.map row_Rule a1.Rules)]), .p (.agg [iv a2.Sym, .sl none 2 (List.map row_Tree a2.Kids)])] [] = some (.ret (.p (iv r)), []) := by
  refine Sat.fn fun Q hQ => ?_
  unfold auto_asked at h
  rw [call49]
  conv => arg 1; arg 7; unfold S03.c49 Tryd.f49; simp only [Option.getD_some]
  obtain ⟨v1, e_v1, h⟩ := ob h
  have e_v1c : call Tryd.prog T H (.fn 35) [.p (.agg [.sl none 1 (List.map rowI a0.Ranks)]), .p (.agg [iv a1.States, .sl none 1 (List.map rowI a1.Final), .sl none 3 (List.map row_Rule a1.Rules)])] [] = some (.ret (.p (bv v1)), []) := spec35 a0 a1 v1 e_v1
  by_cases c1 : v1 = true
  · have h := iteT h c1
    obtain ⟨v2, e_v2, h⟩ := ob h
    have e_v2c : call Tryd.prog T H (.fn 60) [.p (.agg [.sl none 1 (List.map rowI a0.Ranks)]), .p (.agg [iv a2.Sym, .sl none 2 (List.map row_Tree a2.Kids)])] [] = some (.ret (.p (bv v2)), []) := spec60 n a0 a2 v2 e_v2
    by_cases c2 : v2 = true
    · have h := iteT h c2
      simp only [go_sem, e_v1c, c1, e_v2c, c2]
      injection h with h; subst h
      exact Sat.ok hQ
    · have h := iteF h c2
      have c2 := eq_false_of_ne_true c2
      simp only [go_sem, e_v1c, c1, e_v2c, c2]
      injection h with h; subst h
      exact Sat.ok hQ
  · have h := iteF h c1
    have c1 := eq_false_of_ne_true c1
    simp only [go_sem, e_v1c, c1]
    injection h with h; subst h
    exact Sat.ok hQ

def auto_sets : Nat → Automaton → (List (List Int)) → Tree → Option (List (List Bool))
  | 0, _, _, _ => none
  | n + 1, a0, a1, a2 =>
    (mkz 1 a0.States a0.States false).bind fun v1 =>
    rangeL a2.Kids (([] : List (List Bool)), ([] : List (List Bool))) (fun k1 i1 x1 (s1 : (List (List Bool)) × (List (List Bool))) n1 =>
      (auto_sets n a0 a1 x1).bind fun v8 =>
      (v8[0]?).bind fun v9 =>
      (app 24 s1.2 [v9]).bind fun v10 =>
      (app 24 (([] : List Bool) :: s1.1) v8).bind fun v11 =>
      n1 ((List.tail v11), v10)) fun s1 =>
    (idx a1 a2.Sym).bind fun v2 =>
    rangeL v2 v1 (fun k4 i4 x4 (s4 : (List Bool)) n4 =>
      (idx a0.Rules x4).bind fun v4 =>
      rangeL v4.From () (fun k5 i5 x5 (s5 : Unit) n5 =>
        (s1.2[i5]?).bind fun v6 =>
        (idx v6 x5).bind fun v7 =>
        if v7 = true then
          n5 ()
        else
          n4 s4) fun s5 =>
      (idxM ((a0.States).toNat) s4 v4.To).bind fun v5 =>
      n4 (List.set s4 ((v4.To).toNat) true)) fun s4 =>
    (tkM ((a0.States).toNat) s4).bind fun v3 =>
    some (v3 :: s1.1)
theorem spec50 : ∀ (n : Nat), (∀ (a0 : Automaton) (a1 : List (List Int)) (a2 : Tree) (r : List (List Bool)), auto_sets n a0 a1 a2 = some r →
    call Tryd.prog T H (.fn 50) [.p (.agg [iv a0.States, .sl none 1 (List.map rowI a0.Final), .sl none 3 (List.map row_Rule a0.Rules)]), .p (.sl none 1 (List.map (rowL 1 rowI) a1)), .p (.agg [iv a2.Sym, .sl none 2 (List.map row_Tree a2.Kids)])] [] = some (.ret (.p (.sl none 1 (List.map (rowL 1 rowB) r))), [])) := by
  intro n
  induction n with
  | zero => intro a0 a1 a2 r h; cases h
  | succ n ih =>
    intro a0 a1 a2 r h
    refine Sat.fn fun Q hQ => ?_
    rw [auto_sets] at h
    rw [call50]
    conv => arg 1; arg 7; unfold S03.c50 Tryd.f50; simp only [Option.getD_some]
    obtain ⟨v1, e_v1, h⟩ := ob h
    obtain ⟨e_v11, e_v12, e_v13, e_v14⟩ := mkz_some e_v1
    have e_v1b : boundOk (a0.States).toNat 1 = true := bnd_of e_v13 (by decide)
    have e_v1r : List.replicate (a0.States).toNat [AV.p (bv false)] = List.map (rowA rowB) v1 := by rw [e_v14]; exact rep_map (by first | rfl | simp only [go_sem, List.map_nil])
    simp only [go_sem, e_v11, e_v12, e_v1b, e_v1r]
    refine run_rangeL (c := L50_0) (live := [1, 3, 5, 7, 8, 22, 23, 24]) (by simp only [go_sem]) (M := fun i1 (s1 : (List (List Bool)) × (List (List Bool))) => [(1, .p (.sl none 1 (List.map (rowL 1 rowI) a1))), (3, .ptr 0 0), (5, .ptr 1 0), (7, .asl true 1 ([.ms 2 0 1 0 ((a0.States).toNat)] :: List.map (rowA (rowL 1 rowB)) s1.1)), (8, .own 1 (List.map (rowL 1 rowB) s1.2)), (22, .p (.sl none 2 (List.map row_Tree a2.Kids))), (23, .p (iv (a2.Kids.length : Int))), (24, .p (iv (i1 : Int)))]) (Z := fun i1 (s1 : (List (List Bool)) × (List (List Bool))) => [.cells [.p (iv a0.States), .p (.sl none 1 (List.map rowI a0.Final)), .p (.sl none 3 (List.map row_Rule a0.Rules))], .cells [.p (iv a2.Sym), .p (.sl none 2 (List.map row_Tree a2.Kids))], .arr 0 1 (List.map (rowA rowB) v1)]) (N := fun (s1 : (List (List Bool)) × (List (List Bool))) => ⟨[(1, .p (.sl none 1 (List.map (rowL 1 rowI) a1))), (3, .ptr 0 0), (5, .ptr 1 0), (7, .asl true 1 ([.ms 2 0 1 0 ((a0.States).toNat)] :: List.map (rowA (rowL 1 rowB)) s1.1)), (8, .own 1 (List.map (rowL 1 rowB) s1.2))], [.cells [.p (iv a0.States), .p (.sl none 1 (List.map rowI a0.Final)), .p (.sl none 3 (List.map row_Rule a0.Rules))], .cells [.p (iv a2.Sym), .p (.sl none 2 (List.map row_Tree a2.Kids))], .arr 0 1 (List.map (rowA rowB) v1)], [], none, false⟩) h rfl rfl (fun _ _ => rfl) ?_ ?_ ?_
    · intro s1 h
      try dsimp only at h ⊢
      obtain ⟨v2, e_v2, h⟩ := ob h
      obtain ⟨e_v2a, e_v2b⟩ := idx_some e_v2
      simp only [go_sem, e_v2a, e_v2b]
      refine run_rangeL (c := L50_2) (live := [3, 7, 8, 46, 47, 48]) (by simp only [go_sem]) (M := fun i4 (s4 : (List Bool)) => [(3, .ptr 0 0), (7, .asl true 1 ([.ms 2 0 1 0 ((a0.States).toNat)] :: List.map (rowA (rowL 1 rowB)) s1.1)), (8, .own 1 (List.map (rowL 1 rowB) s1.2)), (46, .p (.sl none 1 (List.map rowI v2))), (47, .p (iv (v2.length : Int))), (48, .p (iv (i4 : Int)))]) (Z := fun i4 (s4 : (List Bool)) => [.cells [.p (iv a0.States), .p (.sl none 1 (List.map rowI a0.Final)), .p (.sl none 3 (List.map row_Rule a0.Rules))], .cells [.p (iv a2.Sym), .p (.sl none 2 (List.map row_Tree a2.Kids))], .arr 0 1 (List.map (rowA rowB) s4)]) (N := fun (s4 : (List Bool)) => ⟨[(7, .asl true 1 ([.ms 2 0 1 0 ((a0.States).toNat)] :: List.map (rowA (rowL 1 rowB)) s1.1))], [.cells [.p (iv a0.States), .p (.sl none 1 (List.map rowI a0.Final)), .p (.sl none 3 (List.map row_Rule a0.Rules))], .cells [.p (iv a2.Sym), .p (.sl none 2 (List.map row_Tree a2.Kids))], .arr 0 1 (List.map (rowA rowB) s4)], [], none, false⟩) h rfl rfl (fun _ _ => rfl) ?_ ?_ ?_
      · intro s4 h
        try dsimp only at h ⊢
        obtain ⟨v3, e_v3, h⟩ := ob h
        have e_v3a := (tkM_some e_v3).1
        have e_v3b := (tkM_some e_v3).2
        simp only [go_sem, e_v3a, e_v3b]
        injection h with h; subst h
        exact Sat.ok hQ
      · intro K4 s4 hb4 he4
        try dsimp only
        conv => arg 1; arg 7; unfold L50_2 loopAt S03.c50 Tryd.f50; simp only [loopIn, Option.getD_some, if_true]
        simp only [go_sem, he4]
        exact hb4
      · intro K4 k4 i4 x4 s4 n4 hR4 hE4 hb4 hx4 hi4 hw4 ih4 h
        try dsimp only at h ⊢
        conv => arg 1; arg 7; unfold L50_2 loopAt S03.c50 Tryd.f50; simp only [loopIn, Option.getD_some, if_true]
        obtain ⟨v4, e_v4, h⟩ := ob h
        obtain ⟨e_v4a, e_v4b⟩ := idx_some e_v4
        simp only [go_sem, hx4, hi4, hw4, e_v4a, e_v4b, hR4, hE4]
        refine run_rangeL (c := L50_4) (live := [3, 7, 8, 14, 46, 47, 48, 58, 59, 60]) (by simp only [go_sem]) (M := fun i5 (s5 : Unit) => [(3, .ptr 0 0), (7, .asl true 1 ([.ms 2 0 1 0 ((a0.States).toNat)] :: List.map (rowA (rowL 1 rowB)) s1.1)), (8, .own 1 (List.map (rowL 1 rowB) s1.2)), (14, .ptr 3 0), (46, .p (.sl none 1 (List.map rowI v2))), (47, .p (iv (v2.length : Int))), (48, .p (iv (i4 : Int))), (58, .p (.sl none 1 (List.map rowI v4.From))), (59, .p (iv (v4.From.length : Int))), (60, .p (iv (i5 : Int)))]) (Z := fun i5 (s5 : Unit) => [.cells [.p (iv a0.States), .p (.sl none 1 (List.map rowI a0.Final)), .p (.sl none 3 (List.map row_Rule a0.Rules))], .cells [.p (iv a2.Sym), .p (.sl none 2 (List.map row_Tree a2.Kids))], .arr 0 1 (List.map (rowA rowB) s4), .cells [.p (iv v4.Sym), .p (.sl none 1 (List.map rowI v4.From)), .p (iv v4.To)]]) (N := fun (s5 : Unit) => ⟨[(3, .ptr 0 0), (7, .asl true 1 ([.ms 2 0 1 0 ((a0.States).toNat)] :: List.map (rowA (rowL 1 rowB)) s1.1)), (8, .own 1 (List.map (rowL 1 rowB) s1.2)), (14, .ptr 3 0), (46, .p (.sl none 1 (List.map rowI v2))), (47, .p (iv (v2.length : Int))), (48, .p (iv (i4 : Int)))], [.cells [.p (iv a0.States), .p (.sl none 1 (List.map rowI a0.Final)), .p (.sl none 3 (List.map row_Rule a0.Rules))], .cells [.p (iv a2.Sym), .p (.sl none 2 (List.map row_Tree a2.Kids))], .arr 0 1 (List.map (rowA rowB) s4), .cells [.p (iv v4.Sym), .p (.sl none 1 (List.map rowI v4.From)), .p (iv v4.To)]], [], none, false⟩) h rfl rfl (fun _ _ => rfl) ?_ ?_ ?_
        · intro s5 h
          try dsimp only at h ⊢
          obtain ⟨v5, e_v5, h⟩ := ob h
          obtain ⟨e_v5a, e_v5b, e_v5d⟩ := idxM_some e_v5
          have e_y1 : List.set (List.map (rowA rowB) s4) ((v4.To).toNat) [.p (bv true)] = List.map (rowA rowB) (List.set s4 ((v4.To).toNat) true) := map_set' (by first | rfl | simp only [go_sem, List.map_cons, List.map_nil])
          simp only [go_sem, e_v5a, e_v5b, e_v5d, e_y1, hw4, hR4, hE4]
          exact ih4 (List.set s4 ((v4.To).toNat) true) h
        · intro K5 s5 hb5 he5
          try dsimp only
          conv => arg 1; arg 7; unfold L50_4 loopAt S03.c50 Tryd.f50; simp only [loopIn, Option.getD_some, if_true]
          simp only [go_sem, he5]
          exact hb5
        · intro K5 k5 i5 x5 s5 n5 hR5 hE5 hb5 hx5 hi5 hw5 ih5 h
          try dsimp only at h ⊢
          conv => arg 1; arg 7; unfold L50_4 loopAt S03.c50 Tryd.f50; simp only [loopIn, Option.getD_some, if_true]
          obtain ⟨v6, e_v6, h⟩ := ob h
          obtain ⟨v7, e_v7, h⟩ := ob h
          obtain ⟨e_v7a, e_v7b⟩ := idx_some e_v7
          by_cases c1 : v7 = true
          · have h := iteT h c1
            simp only [go_sem, hx5, hi5, hw5, e_v6, e_v7a, e_v7b, c1, hw4, hR4, hE4, hR5, hE5]
            exact ih5 () h
          · have h := iteF h c1
            have c1 := eq_false_of_ne_true c1
            simp only [go_sem, hx5, hi5, hw5, e_v6, e_v7a, e_v7b, c1, hw4, hR4, hE4, hR5, hE5]
            exact ih4 s4 h
    · intro K1 s1 hb1 he1
      try dsimp only
      conv => arg 1; arg 7; unfold L50_0 loopAt S03.c50 Tryd.f50; simp only [loopIn, Option.getD_some, if_true]
      simp only [go_sem, he1]
      exact hb1
    · intro K1 k1 i1 x1 s1 n1 hR1 hE1 hb1 hx1 hi1 hw1 ih1 h
      try dsimp only at h ⊢
      conv => arg 1; arg 7; unfold L50_0 loopAt S03.c50 Tryd.f50; simp only [loopIn, Option.getD_some, if_true]
      obtain ⟨v8, e_v8, h⟩ := ob h
      have e_v8c : call Tryd.prog T H (.fn 50) [.p (.agg [iv a0.States, .sl none 1 (List.map rowI a0.Final), .sl none 3 (List.map row_Rule a0.Rules)]), .p (.sl none 1 (List.map (rowL 1 rowI) a1)), .p (.agg [iv x1.Sym, .sl none 2 (List.map row_Tree x1.Kids)])] [] = some (.ret (.p (.sl none 1 (List.map (rowL 1 rowB) v8))), []) := ih a0 a1 x1 v8 e_v8
      obtain ⟨v9, e_v9, h⟩ := ob h
      obtain ⟨v10, e_v10, h⟩ := ob h
      have e_v10a : boundOk (s1.2.length + 1) 24 = true := bnd_of (by have := (app_some e_v10).1; simpa using this) (by decide)
      have e_v10b : (List.map (rowL 1 rowB) s1.2) ++ [[.sl none 1 (List.map rowB v9)]] = List.map (rowL 1 rowB) v10 := by rw [(app_some e_v10).2]; simp [rowB, rowL]
      obtain ⟨v11, e_v11, h⟩ := ob h
      have e_v11a : boundOk (s1.1.length + 1 + v8.length) 24 = true := bnd_of (by have := (app_some e_v11).1; simp only [List.length_cons] at this; simpa using this) (by decide)
      have e_v11b : List.map (rowA (rowL 1 rowB)) s1.1 ++ (List.map (rowA (rowL 1 rowB)) v8) = List.map (rowA (rowL 1 rowB)) (List.tail v11) := by rw [(app_some e_v11).2]; simp [rowA, rowB, rowL]
      simp only [go_sem, hx1, hi1, hw1, e_v8c, e_v9, e_v10a, e_v10b, e_v11a, e_v11b, hR1, hE1]
      exact ih1 ((List.tail v11), v10) h

def auto_By (a0 : Alphabet) (a1 : Automaton) : Option (List (List Int)) :=
  (mkz 24 (a0.Ranks.length : Int) (a0.Ranks.length : Int) ([] : List Int)).bind fun v1 =>
  rangeL a1.Rules v1 (fun k1 i1 x1 (s1 : (List (List Int))) n1 =>
    (idxM a0.Ranks.length s1 x1.Sym).bind fun v3 =>
    (app 8 v3 [(i1 : Int)]).bind fun v4 =>
    n1 (List.set s1 ((x1.Sym).toNat) v4)) fun s1 =>
  (tkM a0.Ranks.length s1).bind fun v2 =>
  some v2
theorem spec51 (a0 : Alphabet) (a1 : Automaton) (r : List (List Int)) (h : auto_By a0 a1 = some r) :
    call Tryd.prog T H (.fn 51) [.p (.agg [.sl none 1 (List.map rowI a0.Ranks)]), .p (.agg [iv a1.States, .sl none 1 (List.map rowI a1.Final), .sl none 3 (List.map row_Rule a1.Rules)])] [] = some (.ret (.p (.sl none 1 (List.map (rowL 1 rowI) r))), []) := by
  refine Sat.fn fun Q hQ => ?_
  unfold auto_By at h
  rw [call51]
  conv => arg 1; arg 7; unfold S03.c51 Tryd.f51; simp only [Option.getD_some]
  obtain ⟨v1, e_v1, h⟩ := ob h
  obtain ⟨e_v11, e_v12, e_v13, e_v14⟩ := mkz_some e_v1
  have e_v1b : boundOk ((a0.Ranks.length : Int)).toNat 24 = true := bnd_of e_v13 (by decide)
  have e_v1r : List.replicate ((a0.Ranks.length : Int)).toNat [.own 1 []] = List.map (rowO 1 rowI) v1 := by rw [e_v14]; exact rep_map (by first | rfl | simp only [go_sem, List.map_nil])
  try simp only [Int.toNat_natCast] at e_v11
  try simp only [Int.toNat_natCast] at e_v12
  try simp only [Int.toNat_natCast] at e_v1b
  try simp only [Int.toNat_natCast] at e_v1r
  try simp only [Int.toNat_natCast] at e_v11
  try simp only [Int.toNat_natCast] at e_v12
  try simp only [Int.toNat_natCast] at e_v1b
  try simp only [Int.toNat_natCast] at e_v1r
  simp only [go_sem, e_v11, e_v12, e_v1b, e_v1r]
  refine run_rangeL (c := L51_0) (live := [5, 13, 14, 15]) (by simp only [go_sem]) (M := fun i1 (s1 : (List (List Int))) => [(5, .ms 2 0 1 0 a0.Ranks.length), (13, .p (.sl none 3 (List.map row_Rule a1.Rules))), (14, .p (iv (a1.Rules.length : Int))), (15, .p (iv (i1 : Int)))]) (Z := fun i1 (s1 : (List (List Int))) => [.cells [.p (.sl none 1 (List.map rowI a0.Ranks))], .cells [.p (iv a1.States), .p (.sl none 1 (List.map rowI a1.Final)), .p (.sl none 3 (List.map row_Rule a1.Rules))], .arr 0 1 (List.map (rowO 1 rowI) s1)]) (N := fun (s1 : (List (List Int))) => ⟨[(5, .ms 2 0 1 0 a0.Ranks.length)], [.cells [.p (.sl none 1 (List.map rowI a0.Ranks))], .cells [.p (iv a1.States), .p (.sl none 1 (List.map rowI a1.Final)), .p (.sl none 3 (List.map row_Rule a1.Rules))], .arr 0 1 (List.map (rowO 1 rowI) s1)], [], none, false⟩) h rfl rfl (fun _ _ => rfl) ?_ ?_ ?_
  · intro s1 h
    try dsimp only at h ⊢
    obtain ⟨v2, e_v2, h⟩ := ob h
    have e_v2a := (tkM_some e_v2).1
    have e_v2b := (tkM_some e_v2).2
    simp only [go_sem, e_v2a, e_v2b]
    injection h with h; subst h
    exact Sat.ok hQ
  · intro K1 s1 hb1 he1
    try dsimp only
    conv => arg 1; arg 7; unfold L51_0 loopAt S03.c51 Tryd.f51; simp only [loopIn, Option.getD_some, if_true]
    simp only [go_sem, he1]
    exact hb1
  · intro K1 k1 i1 x1 s1 n1 hR1 hE1 hb1 hx1 hi1 hw1 ih1 h
    try dsimp only at h ⊢
    conv => arg 1; arg 7; unfold L51_0 loopAt S03.c51 Tryd.f51; simp only [loopIn, Option.getD_some, if_true]
    obtain ⟨v3, e_v3, h⟩ := ob h
    obtain ⟨e_v3a, e_v3b, e_v3d⟩ := idxM_some e_v3
    have e_g1 : (List.set (List.map (rowO 1 rowI) s1) ((x1.Sym).toNat) [.p (.sl none 1 (List.map rowI v3))])[(x1.Sym).toNat]? = some [.p (.sl none 1 (List.map rowI v3))] := by first | exact set_get_map e_v3 _ | exact set_get_map e_v3d _
    obtain ⟨v4, e_v4, h⟩ := ob h
    have e_v4a : boundOk (v3.length + 1) 8 = true := bnd_of (by have := (app_some e_v4).1; simpa using this) (by decide)
    have e_v4b : (List.map rowI v3) ++ [[iv (i1 : Int)]] = List.map rowI v4 := by rw [(app_some e_v4).2]; simp [rowI]
    have e_y1 : List.set (List.map (rowO 1 rowI) s1) ((x1.Sym).toNat) [.own 1 (List.map rowI v4)] = List.map (rowO 1 rowI) (List.set s1 ((x1.Sym).toNat) v4) := map_set' (by first | rfl | simp only [go_sem, List.map_cons, List.map_nil])
    simp only [go_sem, hx1, hi1, hw1, e_v3a, e_v3b, e_v3d, e_g1, List.set_set, e_v4a, e_v4b, e_y1, hR1, hE1]
    exact ih1 (List.set s1 ((x1.Sym).toNat) v4) h

def auto_States (n : Nat) (a0 : Alphabet) (a1 : Automaton) (a2 : Tree) : Option ((List Int) × Int) :=
  (auto_asked n a0 a1 a2).bind fun v1 =>
  if v1 = 0 then
    (auto_By a0 a1).bind fun v2 =>
    (auto_sets n a1 v2 a2).bind fun v3 =>
    (v3[0]?).bind fun v4 =>
    rangeL v4 ([] : List Int) (fun k1 i1 x1 (s1 : (List Int)) n1 =>
      if x1 = true then
        (app 8 s1 [(i1 : Int)]).bind fun v5 =>
        n1 v5
      else
        n1 s1) fun s1 =>
    some (s1, 0)
  else
    some (([] : List Int), v1)
theorem spec11 (n : Nat) (a0 : Alphabet) (a1 : Automaton) (a2 : Tree) (r : (List Int) × Int) (h : auto_States n a0 a1 a2 = some r) :
    call Tryd.prog T H (.fn 11) [.p (.agg [.sl none 1 (List.map rowI a0.Ranks)]), .p (.agg [iv a1.States, .sl none 1 (List.map rowI a1.Final), .sl none 3 (List.map row_Rule a1.Rules)]), .p (.agg [iv a2.Sym, .sl none 2 (List.map row_Tree a2.Kids)])] [] = some (.ret (.p (.tup [.sl none 1 (List.map rowI r.1), iv r.2])), []) := by
  refine Sat.fn fun Q hQ => ?_
  unfold auto_States at h
  rw [call11]
  conv => arg 1; arg 7; unfold S03.c11 Tryd.f11; simp only [Option.getD_some]
  obtain ⟨v1, e_v1, h⟩ := ob h
  have e_v1c : call Tryd.prog T H (.fn 49) [.p (.agg [.sl none 1 (List.map rowI a0.Ranks)]), .p (.agg [iv a1.States, .sl none 1 (List.map rowI a1.Final), .sl none 3 (List.map row_Rule a1.Rules)]), .p (.agg [iv a2.Sym, .sl none 2 (List.map row_Tree a2.Kids)])] [] = some (.ret (.p (iv v1)), []) := spec49 n a0 a1 a2 v1 e_v1
  by_cases c1 : v1 = 0
  · have h := iteT h c1
    have c1b : (v1 != 0) = false := bneF c1
    obtain ⟨v2, e_v2, h⟩ := ob h
    have e_v2c : call Tryd.prog T H (.fn 51) [.p (.agg [.sl none 1 (List.map rowI a0.Ranks)]), .p (.agg [iv a1.States, .sl none 1 (List.map rowI a1.Final), .sl none 3 (List.map row_Rule a1.Rules)])] [] = some (.ret (.p (.sl none 1 (List.map (rowL 1 rowI) v2))), []) := spec51 a0 a1 v2 e_v2
    obtain ⟨v3, e_v3, h⟩ := ob h
    have e_v3c : call Tryd.prog T H (.fn 50) [.p (.agg [iv a1.States, .sl none 1 (List.map rowI a1.Final), .sl none 3 (List.map row_Rule a1.Rules)]), .p (.sl none 1 (List.map (rowL 1 rowI) v2)), .p (.agg [iv a2.Sym, .sl none 2 (List.map row_Tree a2.Kids)])] [] = some (.ret (.p (.sl none 1 (List.map (rowL 1 rowB) v3))), []) := spec50 n a1 v2 a2 v3 e_v3
    obtain ⟨v4, e_v4, h⟩ := ob h
    simp only [go_sem, e_v1c, c1b, e_v2c, e_v3c, e_v4]
    refine run_rangeL (c := L11_0) (live := [9, 26, 27, 28]) (by simp only [go_sem]) (M := fun i1 (s1 : (List Int)) => [(9, .own 1 (List.map rowI s1)), (26, .p (.sl none 1 (List.map rowB v4))), (27, .p (iv (v4.length : Int))), (28, .p (iv (i1 : Int)))]) (Z := fun i1 (s1 : (List Int)) => [.cells [.p (.sl none 1 (List.map rowI a0.Ranks))], .cells [.p (iv a1.States), .p (.sl none 1 (List.map rowI a1.Final)), .p (.sl none 3 (List.map row_Rule a1.Rules))], .cells [.p (iv a2.Sym), .p (.sl none 2 (List.map row_Tree a2.Kids))]]) (N := fun (s1 : (List Int)) => ⟨[(9, .own 1 (List.map rowI s1))], [.cells [.p (.sl none 1 (List.map rowI a0.Ranks))], .cells [.p (iv a1.States), .p (.sl none 1 (List.map rowI a1.Final)), .p (.sl none 3 (List.map row_Rule a1.Rules))], .cells [.p (iv a2.Sym), .p (.sl none 2 (List.map row_Tree a2.Kids))]], [], none, false⟩) h rfl rfl (fun _ _ => rfl) ?_ ?_ ?_
    · intro s1 h
      try dsimp only at h ⊢
      simp only [go_sem]
      injection h with h; subst h
      exact Sat.ok hQ
    · intro K1 s1 hb1 he1
      try dsimp only
      conv => arg 1; arg 7; unfold L11_0 loopAt S03.c11 Tryd.f11; simp only [loopIn, Option.getD_some, if_true]
      simp only [go_sem, he1]
      exact hb1
    · intro K1 k1 i1 x1 s1 n1 hR1 hE1 hb1 hx1 hi1 hw1 ih1 h
      try dsimp only at h ⊢
      conv => arg 1; arg 7; unfold L11_0 loopAt S03.c11 Tryd.f11; simp only [loopIn, Option.getD_some, if_true]
      by_cases c2 : x1 = true
      · have h := iteT h c2
        obtain ⟨v5, e_v5, h⟩ := ob h
        have e_v5a : boundOk (s1.length + 1) 8 = true := bnd_of (by have := (app_some e_v5).1; simpa using this) (by decide)
        have e_v5b : (List.map rowI s1) ++ [[iv (i1 : Int)]] = List.map rowI v5 := by rw [(app_some e_v5).2]; simp [rowI]
        simp only [go_sem, hx1, hi1, hw1, c2, e_v5a, e_v5b, hR1, hE1]
        exact ih1 v5 h
      · have h := iteF h c2
        have c2 := eq_false_of_ne_true c2
        simp only [go_sem, hx1, hi1, hw1, c2, hR1, hE1]
        exact ih1 s1 h
  · have h := iteF h c1
    have c1b : (v1 != 0) = true := bneT c1
    simp only [go_sem, e_v1c, c1b]
    injection h with h; subst h
    exact Sat.ok hQ

def auto_Final (a0 : Automaton) : Option (List Bool) :=
  (mkz 1 a0.States a0.States false).bind fun v1 =>
  rangeL a0.Final v1 (fun k1 i1 x1 (s1 : (List Bool)) n1 =>
    (idxM ((a0.States).toNat) s1 x1).bind fun v3 =>
    n1 (List.set s1 ((x1).toNat) true)) fun s1 =>
  (tkM ((a0.States).toNat) s1).bind fun v2 =>
  some v2
theorem spec54 (a0 : Automaton) (r : List Bool) (h : auto_Final a0 = some r) :
    call Tryd.prog T H (.fn 54) [.p (.agg [iv a0.States, .sl none 1 (List.map rowI a0.Final), .sl none 3 (List.map row_Rule a0.Rules)])] [] = some (.ret (.p (.sl none 1 (List.map rowB r))), []) := by
  refine Sat.fn fun Q hQ => ?_
  unfold auto_Final at h
  rw [call54]
  conv => arg 1; arg 7; unfold S03.c54 Tryd.f54; simp only [Option.getD_some]
  obtain ⟨v1, e_v1, h⟩ := ob h
  obtain ⟨e_v11, e_v12, e_v13, e_v14⟩ := mkz_some e_v1
  have e_v1b : boundOk (a0.States).toNat 1 = true := bnd_of e_v13 (by decide)
  have e_v1r : List.replicate (a0.States).toNat [AV.p (bv false)] = List.map (rowA rowB) v1 := by rw [e_v14]; exact rep_map (by first | rfl | simp only [go_sem, List.map_nil])
  simp only [go_sem, e_v11, e_v12, e_v1b, e_v1r]
  refine run_rangeL (c := L54_0) (live := [3, 10, 11, 12]) (by simp only [go_sem]) (M := fun i1 (s1 : (List Bool)) => [(3, .ms 1 0 1 0 ((a0.States).toNat)), (10, .p (.sl none 1 (List.map rowI a0.Final))), (11, .p (iv (a0.Final.length : Int))), (12, .p (iv (i1 : Int)))]) (Z := fun i1 (s1 : (List Bool)) => [.cells [.p (iv a0.States), .p (.sl none 1 (List.map rowI a0.Final)), .p (.sl none 3 (List.map row_Rule a0.Rules))], .arr 0 1 (List.map (rowA rowB) s1)]) (N := fun (s1 : (List Bool)) => ⟨[(3, .ms 1 0 1 0 ((a0.States).toNat))], [.cells [.p (iv a0.States), .p (.sl none 1 (List.map rowI a0.Final)), .p (.sl none 3 (List.map row_Rule a0.Rules))], .arr 0 1 (List.map (rowA rowB) s1)], [], none, false⟩) h rfl rfl (fun _ _ => rfl) ?_ ?_ ?_
  · intro s1 h
    try dsimp only at h ⊢
    obtain ⟨v2, e_v2, h⟩ := ob h
    have e_v2a := (tkM_some e_v2).1
    have e_v2b := (tkM_some e_v2).2
    simp only [go_sem, e_v2a, e_v2b]
    injection h with h; subst h
    exact Sat.ok hQ
  · intro K1 s1 hb1 he1
    try dsimp only
    conv => arg 1; arg 7; unfold L54_0 loopAt S03.c54 Tryd.f54; simp only [loopIn, Option.getD_some, if_true]
    simp only [go_sem, he1]
    exact hb1
  · intro K1 k1 i1 x1 s1 n1 hR1 hE1 hb1 hx1 hi1 hw1 ih1 h
    try dsimp only at h ⊢
    conv => arg 1; arg 7; unfold L54_0 loopAt S03.c54 Tryd.f54; simp only [loopIn, Option.getD_some, if_true]
    obtain ⟨v3, e_v3, h⟩ := ob h
    obtain ⟨e_v3a, e_v3b, e_v3d⟩ := idxM_some e_v3
    have e_y1 : List.set (List.map (rowA rowB) s1) ((x1).toNat) [.p (bv true)] = List.map (rowA rowB) (List.set s1 ((x1).toNat) true) := map_set' (by first | rfl | simp only [go_sem, List.map_cons, List.map_nil])
    simp only [go_sem, hx1, hi1, hw1, e_v3a, e_v3b, e_v3d, e_y1, hR1, hE1]
    exact ih1 (List.set s1 ((x1).toNat) true) h

def auto_Accepts (n : Nat) (a0 : Alphabet) (a1 : Automaton) (a2 : Tree) : Option (Bool × Int) :=
  (auto_States n a0 a1 a2).bind fun v1 =>
  if v1.2 = 0 then
    (auto_Final a1).bind fun v2 =>
    jn (fun (u1 : Int) =>
      some (decide (0 ≤ u1), 0)) fun j1 =>
    rangeL v1.1 () (fun k1 i1 x1 (s1 : Unit) n1 =>
      (idx v2 x1).bind fun v3 =>
      if v3 = true then
        j1 (i1 : Int)
      else
        n1 ()) fun s1 =>
    j1 (-1)
  else
    some (false, v1.2)
theorem spec13 (n : Nat) (a0 : Alphabet) (a1 : Automaton) (a2 : Tree) (r : Bool × Int) (h : auto_Accepts n a0 a1 a2 = some r) :
    call Tryd.prog T H (.fn 13) [.p (.agg [.sl none 1 (List.map rowI a0.Ranks)]), .p (.agg [iv a1.States, .sl none 1 (List.map rowI a1.Final), .sl none 3 (List.map row_Rule a1.Rules)]), .p (.agg [iv a2.Sym, .sl none 2 (List.map row_Tree a2.Kids)])] [] = some (.ret (.p (.tup [bv r.1, iv r.2])), []) := by
  refine Sat.fn fun Q hQ => ?_
  unfold auto_Accepts at h
  rw [call13]
  conv => arg 1; arg 7; unfold S03.c13 Tryd.f13; simp only [Option.getD_some]
  obtain ⟨v1, e_v1, h⟩ := ob h
  have e_v1c : call Tryd.prog T H (.fn 11) [.p (.agg [.sl none 1 (List.map rowI a0.Ranks)]), .p (.agg [iv a1.States, .sl none 1 (List.map rowI a1.Final), .sl none 3 (List.map row_Rule a1.Rules)]), .p (.agg [iv a2.Sym, .sl none 2 (List.map row_Tree a2.Kids)])] [] = some (.ret (.p (.tup [.sl none 1 (List.map rowI v1.1), iv v1.2])), []) := spec11 n a0 a1 a2 v1 e_v1
  by_cases c1 : v1.2 = 0
  · have h := iteT h c1
    have c1b : (v1.2 != 0) = false := bneF c1
    obtain ⟨v2, e_v2, h⟩ := ob h
    have e_v2c : call Tryd.prog T H (.fn 54) [.p (.agg [iv a1.States, .sl none 1 (List.map rowI a1.Final), .sl none 3 (List.map row_Rule a1.Rules)])] [] = some (.ret (.p (.sl none 1 (List.map rowB v2))), []) := spec54 a1 v2 e_v2
    simp only [go_sem, e_v1c, c1b, e_v2c]
    refine Sat.callc ?_
    rw [call55]
    conv => arg 1; arg 7; unfold S03.c55 Tryd.f55; simp only [Option.getD_some]
    simp only [go_sem]
    refine Sat.callj (V := fun (u1 : Int) => .p (iv u1)) (Z := fun (u1 : Int) => [.cells [.p (.sl none 1 (List.map rowI a0.Ranks))], .cells [.p (iv a1.States), .p (.sl none 1 (List.map rowI a1.Final)), .p (.sl none 3 (List.map row_Rule a1.Rules))], .cells [.p (iv a2.Sym), .p (.sl none 2 (List.map row_Tree a2.Kids))], .cells [.p (.sl none 1 (List.map rowB v2))]]) h ?_ ?_
    · intro u1 h
      try dsimp only at h ⊢
      simp only [go_sem]
      refine Sat.ok ?_
      dsimp only
      simp only [go_sem]
      injection h with h; subst h
      exact Sat.ok hQ
    · intro j1 h
      rw [call81]
      conv => arg 1; arg 7; unfold S03.c81 Tryd.f81; simp only [Option.getD_some]
      simp only [go_sem]
      refine run_rangeL (c := L81_0) (live := [0, 1, 7, 8]) (by simp only [go_sem]) (M := fun i1 (s1 : Unit) => [(0, .p (.sl none 1 (List.map rowI v1.1))), (1, .fn 56 [.ptr 3 0]), (7, .p (iv (v1.1.length : Int))), (8, .p (iv (i1 : Int)))]) (Z := fun i1 (s1 : Unit) => [.cells [.p (.sl none 1 (List.map rowI a0.Ranks))], .cells [.p (iv a1.States), .p (.sl none 1 (List.map rowI a1.Final)), .p (.sl none 3 (List.map row_Rule a1.Rules))], .cells [.p (iv a2.Sym), .p (.sl none 2 (List.map row_Tree a2.Kids))], .cells [.p (.sl none 1 (List.map rowB v2))]]) (N := fun (s1 : Unit) => ⟨[], [.cells [.p (.sl none 1 (List.map rowI a0.Ranks))], .cells [.p (iv a1.States), .p (.sl none 1 (List.map rowI a1.Final)), .p (.sl none 3 (List.map row_Rule a1.Rules))], .cells [.p (iv a2.Sym), .p (.sl none 2 (List.map row_Tree a2.Kids))], .cells [.p (.sl none 1 (List.map rowB v2))]], [], none, false⟩) h rfl rfl (fun _ _ => rfl) ?_ ?_ ?_
      · intro s1 h
        try dsimp only at h ⊢
        simp only [go_sem]
        exact Sat.ok ⟨(-1), rfl, h⟩
      · intro K1 s1 hb1 he1
        try dsimp only
        conv => arg 1; arg 7; unfold L81_0 loopAt S03.c81 Tryd.f81; simp only [loopIn, Option.getD_some, if_true]
        simp only [go_sem, he1]
        exact hb1
      · intro K1 k1 i1 x1 s1 n1 hR1 hE1 hb1 hx1 hi1 hw1 ih1 h
        try dsimp only at h ⊢
        conv => arg 1; arg 7; unfold L81_0 loopAt S03.c81 Tryd.f81; simp only [loopIn, Option.getD_some, if_true]
        simp only [go_sem, hx1, hi1, hw1, hR1, hE1]
        refine Sat.callc ?_
        rw [call56]
        conv => arg 1; arg 7; unfold S03.c56 Tryd.f56; simp only [Option.getD_some]
        obtain ⟨v3, e_v3, h⟩ := ob h
        obtain ⟨e_v3a, e_v3b⟩ := idx_some e_v3
        simp only [go_sem, e_v3a, e_v3b, hw1, hR1, hE1]
        refine Sat.ok ?_
        dsimp only
        by_cases c2 : v3 = true
        · have h := iteT h c2
          simp only [go_sem, c2, hw1, hR1, hE1]
          exact Sat.ok ⟨(i1 : Int), rfl, h⟩
        · have h := iteF h c2
          have c2 := eq_false_of_ne_true c2
          simp only [go_sem, c2, hw1, hR1, hE1]
          exact ih1 () h
  · have h := iteF h c1
    have c1b : (v1.2 != 0) = true := bneT c1
    simp only [go_sem, e_v1c, c1b]
    injection h with h; subst h
    exact Sat.ok hQ

def law03_even  : Option Automaton :=
  some (Automaton.mk 2 [1] [(Rule.mk 0 ([] : List Int) 0), (Rule.mk 1 [0, 0] 1), (Rule.mk 1 [1, 1] 0)])
theorem spec46  (r : Automaton) (h : law03_even = some r) :
    call Tryd.prog T H (.fn 46) [] [] = some (.ret (.p (.agg [iv r.States, .sl none 1 (List.map rowI r.Final), .sl none 3 (List.map row_Rule r.Rules)])), []) := by
  refine Sat.fn fun Q hQ => ?_
  unfold law03_even at h
  rw [call46]
  conv => arg 1; arg 7; unfold S03.c46 Tryd.f46; simp only [Option.getD_some]
  simp only [go_sem]
  injection h with h; subst h
  simp only [List.map_cons, List.map_nil, rowI, row_Rule_eq] at hQ
  exact Sat.ok hQ

def law03_f (a0 : Tree) (a1 : Tree) : Option Tree :=
  some (Tree.mk 1 [a0, a1])
theorem spec47 (a0 : Tree) (a1 : Tree) (r : Tree) (h : law03_f a0 a1 = some r) :
    call Tryd.prog T H (.fn 47) [.p (.agg [iv a0.Sym, .sl none 2 (List.map row_Tree a0.Kids)]), .p (.agg [iv a1.Sym, .sl none 2 (List.map row_Tree a1.Kids)])] [] = some (.ret (.p (.agg [iv r.Sym, .sl none 2 (List.map row_Tree r.Kids)])), []) := by
  refine Sat.fn fun Q hQ => ?_
  unfold law03_f at h
  rw [call47]
  conv => arg 1; arg 7; unfold S03.c47 Tryd.f47; simp only [Option.getD_some]
  simp only [go_sem]
  injection h with h; subst h
  simp only [List.map_cons, List.map_nil, row_Tree_eq] at hQ
  exact Sat.ok hQ

def law03_leaf  : Option Tree :=
  some (Tree.mk 0 ([] : List Tree))
theorem spec48  (r : Tree) (h : law03_leaf = some r) :
    call Tryd.prog T H (.fn 48) [] [] = some (.ret (.p (.agg [iv r.Sym, .sl none 2 (List.map row_Tree r.Kids)])), []) := by
  refine Sat.fn fun Q hQ => ?_
  unfold law03_leaf at h
  rw [call48]
  conv => arg 1; arg 7; unfold S03.c48 Tryd.f48; simp only [Option.getD_some]
  simp only [go_sem]
  injection h with h; subst h
  exact Sat.ok hQ

def law03_awake (n : Nat)  : Option Bool :=
  (law03_even).bind fun v1 =>
  (law03_leaf).bind fun v2 =>
  (law03_f v2 v2).bind fun v3 =>
  (auto_Accepts n (Alphabet.mk [0, 2]) v1 v3).bind fun v4 =>
  (law03_f v2 v3).bind fun v5 =>
  (auto_Accepts n (Alphabet.mk [0, 2]) v1 v5).bind fun v6 =>
  if v4.1 = true then
    if v4.2 = 0 then
      if v6.1 = true then
        some false
      else
        some (v6.2 == 0)
    else
      some false
  else
    some false
theorem spec10 (n : Nat)  (r : Bool) (h : law03_awake n = some r) :
    call Tryd.prog T H (.fn 10) [] [] = some (.ret (.p (bv r)), []) := by
  refine Sat.fn fun Q hQ => ?_
  unfold law03_awake at h
  rw [call10]
  conv => arg 1; arg 7; unfold S03.c10 Tryd.f10; simp only [Option.getD_some]
  obtain ⟨v1, e_v1, h⟩ := ob h
  have e_v1c : call Tryd.prog T H (.fn 46) [] [] = some (.ret (.p (.agg [iv v1.States, .sl none 1 (List.map rowI v1.Final), .sl none 3 (List.map row_Rule v1.Rules)])), []) := spec46 v1 e_v1
  obtain ⟨v2, e_v2, h⟩ := ob h
  have e_v2c : call Tryd.prog T H (.fn 48) [] [] = some (.ret (.p (.agg [iv v2.Sym, .sl none 2 (List.map row_Tree v2.Kids)])), []) := spec48 v2 e_v2
  obtain ⟨v3, e_v3, h⟩ := ob h
  have e_v3c : call Tryd.prog T H (.fn 47) [.p (.agg [iv v2.Sym, .sl none 2 (List.map row_Tree v2.Kids)]), .p (.agg [iv v2.Sym, .sl none 2 (List.map row_Tree v2.Kids)])] [] = some (.ret (.p (.agg [iv v3.Sym, .sl none 2 (List.map row_Tree v3.Kids)])), []) := spec47 v2 v2 v3 e_v3
  obtain ⟨v4, e_v4, h⟩ := ob h
  have e_v4c : call Tryd.prog T H (.fn 13) [.p (.agg [.sl none 1 [[iv 0], [iv 2]]]), .p (.agg [iv v1.States, .sl none 1 (List.map rowI v1.Final), .sl none 3 (List.map row_Rule v1.Rules)]), .p (.agg [iv v3.Sym, .sl none 2 (List.map row_Tree v3.Kids)])] [] = some (.ret (.p (.tup [bv v4.1, iv v4.2])), []) := by have q := spec13 n (Alphabet.mk [0, 2]) v1 v3 v4 e_v4; simp only [List.map_cons, List.map_nil, rowI] at q ⊢; exact q
  obtain ⟨v5, e_v5, h⟩ := ob h
  have e_v5c : call Tryd.prog T H (.fn 47) [.p (.agg [iv v2.Sym, .sl none 2 (List.map row_Tree v2.Kids)]), .p (.agg [iv v3.Sym, .sl none 2 (List.map row_Tree v3.Kids)])] [] = some (.ret (.p (.agg [iv v5.Sym, .sl none 2 (List.map row_Tree v5.Kids)])), []) := spec47 v2 v3 v5 e_v5
  obtain ⟨v6, e_v6, h⟩ := ob h
  have e_v6c : call Tryd.prog T H (.fn 13) [.p (.agg [.sl none 1 [[iv 0], [iv 2]]]), .p (.agg [iv v1.States, .sl none 1 (List.map rowI v1.Final), .sl none 3 (List.map row_Rule v1.Rules)]), .p (.agg [iv v5.Sym, .sl none 2 (List.map row_Tree v5.Kids)])] [] = some (.ret (.p (.tup [bv v6.1, iv v6.2])), []) := by have q := spec13 n (Alphabet.mk [0, 2]) v1 v5 v6 e_v6; simp only [List.map_cons, List.map_nil, rowI] at q ⊢; exact q
  by_cases c1 : v4.1 = true
  · have h := iteT h c1
    by_cases c2 : v4.2 = 0
    · have h := iteT h c2
      have c2b : (v4.2 == 0) = true := beqT c2
      by_cases c3 : v6.1 = true
      · have h := iteT h c3
        simp only [go_sem, e_v1c, e_v2c, e_v3c, e_v4c, e_v5c, e_v6c, c1, c2b, c3]
        injection h with h; subst h
        exact Sat.ok hQ
      · have h := iteF h c3
        have c3 := eq_false_of_ne_true c3
        simp only [go_sem, e_v1c, e_v2c, e_v3c, e_v4c, e_v5c, e_v6c, c1, c2b, c3]
        injection h with h; subst h
        exact Sat.ok hQ
    · have h := iteF h c2
      have c2b : (v4.2 == 0) = false := beqF c2
      simp only [go_sem, e_v1c, e_v2c, e_v3c, e_v4c, e_v5c, e_v6c, c1, c2b]
      injection h with h; subst h
      exact Sat.ok hQ
  · have h := iteF h c1
    have c1 := eq_false_of_ne_true c1
    simp only [go_sem, e_v1c, e_v2c, e_v3c, e_v4c, e_v5c, e_v6c, c1]
    injection h with h; subst h
    exact Sat.ok hQ

def ref01_ValidAlphabet (a0 : Alphabet) : Option Bool :=
  if 12 < (a0.Ranks.length : Int) then
    some false
  else
    rangeL a0.Ranks () (fun k1 i1 x1 (s1 : Unit) n1 =>
      if x1 < 0 then
        some false
      else
        if 3 < x1 then
          some false
        else
          n1 ()) fun s1 =>
    some true
theorem spec57 (a0 : Alphabet) (r : Bool) (h : ref01_ValidAlphabet a0 = some r) :
    call Tryd.prog T H (.fn 57) [.p (.agg [.sl none 1 (List.map rowI a0.Ranks)])] [] = some (.ret (.p (bv r)), []) := by
  refine Sat.fn fun Q hQ => ?_
  unfold ref01_ValidAlphabet at h
  rw [call57]
  conv => arg 1; arg 7; unfold S03.c57 Tryd.f57; simp only [Option.getD_some]
  by_cases c1 : 12 < (a0.Ranks.length : Int)
  · have h := iteT h c1
    simp only [go_sem, c1]
    injection h with h; subst h
    exact Sat.ok hQ
  · have h := iteF h c1
    simp only [go_sem, c1]
    refine run_rangeL (c := L57_0) (live := [10, 11, 12]) (by simp only [go_sem]) (M := fun i1 (s1 : Unit) => [(10, .p (.sl none 1 (List.map rowI a0.Ranks))), (11, .p (iv (a0.Ranks.length : Int))), (12, .p (iv (i1 : Int)))]) (Z := fun i1 (s1 : Unit) => [.cells [.p (.sl none 1 (List.map rowI a0.Ranks))]]) (N := fun (s1 : Unit) => ⟨[], [.cells [.p (.sl none 1 (List.map rowI a0.Ranks))]], [], none, false⟩) h rfl rfl (fun _ _ => rfl) ?_ ?_ ?_
    · intro s1 h
      try dsimp only at h ⊢
      simp only [go_sem]
      injection h with h; subst h
      exact Sat.ok hQ
    · intro K1 s1 hb1 he1
      try dsimp only
      conv => arg 1; arg 7; unfold L57_0 loopAt S03.c57 Tryd.f57; simp only [loopIn, Option.getD_some, if_true]
      simp only [go_sem, he1]
      exact hb1
    · intro K1 k1 i1 x1 s1 n1 hR1 hE1 hb1 hx1 hi1 hw1 ih1 h
      try dsimp only at h ⊢
      conv => arg 1; arg 7; unfold L57_0 loopAt S03.c57 Tryd.f57; simp only [loopIn, Option.getD_some, if_true]
      by_cases c2 : x1 < 0
      · have h := iteT h c2
        simp only [go_sem, hx1, hi1, hw1, c2, hR1, hE1]
        injection h with h; subst h
        exact Sat.ok hQ
      · have h := iteF h c2
        by_cases c3 : 3 < x1
        · have h := iteT h c3
          simp only [go_sem, hx1, hi1, hw1, c2, c3, hR1, hE1]
          injection h with h; subst h
          exact Sat.ok hQ
        · have h := iteF h c3
          simp only [go_sem, hx1, hi1, hw1, c2, c3, hR1, hE1]
          exact ih1 () h

def ref01_shaped : Nat → Alphabet → Tree → Option Bool
  | 0, _, _ => none
  | n + 1, a0, a1 =>
    if a1.Sym < 0 then
      some false
    else
      if (a0.Ranks.length : Int) ≤ a1.Sym then
        some false
      else
        (idx a0.Ranks a1.Sym).bind fun v1 =>
        if (a1.Kids.length : Int) = v1 then
          rangeL a1.Kids () (fun k1 i1 x1 (s1 : Unit) n1 =>
            (ref01_shaped n a0 x1).bind fun v2 =>
            if v2 = true then
              n1 ()
            else
              some false) fun s1 =>
          some true
        else
          some false
theorem spec58 : ∀ (n : Nat), (∀ (a0 : Alphabet) (a1 : Tree) (r : Bool), ref01_shaped n a0 a1 = some r →
    call Tryd.prog T H (.fn 58) [.p (.agg [.sl none 1 (List.map rowI a0.Ranks)]), .p (.agg [iv a1.Sym, .sl none 2 (List.map row_Tree a1.Kids)])] [] = some (.ret (.p (bv r)), [])) := by
  intro n
  induction n with
  | zero => intro a0 a1 r h; cases h
  | succ n ih =>
    intro a0 a1 r h
    refine Sat.fn fun Q hQ => ?_
    rw [ref01_shaped] at h
    rw [call58]
    conv => arg 1; arg 7; unfold S03.c58 Tryd.f58; simp only [Option.getD_some]
    by_cases c1 : a1.Sym < 0
    · have h := iteT h c1
      simp only [go_sem, c1]
      injection h with h; subst h
      exact Sat.ok hQ
    · have h := iteF h c1
      by_cases c2 : (a0.Ranks.length : Int) ≤ a1.Sym
      · have h := iteT h c2
        simp only [go_sem, c1, c2]
        injection h with h; subst h
        exact Sat.ok hQ
      · have h := iteF h c2
        obtain ⟨v1, e_v1, h⟩ := ob h
        obtain ⟨e_v1a, e_v1b⟩ := idx_some e_v1
        by_cases c3 : (a1.Kids.length : Int) = v1
        · have h := iteT h c3
          have c3b : ((a1.Kids.length : Int) != v1) = false := bneF c3
          simp only [go_sem, c1, c2, e_v1a, e_v1b, c3b]
          refine run_rangeL (c := L58_0) (live := [2, 31, 32, 33]) (by simp only [go_sem]) (M := fun i1 (s1 : Unit) => [(2, .ptr 0 0), (31, .p (.sl none 2 (List.map row_Tree a1.Kids))), (32, .p (iv (a1.Kids.length : Int))), (33, .p (iv (i1 : Int)))]) (Z := fun i1 (s1 : Unit) => [.cells [.p (.sl none 1 (List.map rowI a0.Ranks))], .cells [.p (iv a1.Sym), .p (.sl none 2 (List.map row_Tree a1.Kids))]]) (N := fun (s1 : Unit) => ⟨[], [.cells [.p (.sl none 1 (List.map rowI a0.Ranks))], .cells [.p (iv a1.Sym), .p (.sl none 2 (List.map row_Tree a1.Kids))]], [], none, false⟩) h rfl rfl (fun _ _ => rfl) ?_ ?_ ?_
          · intro s1 h
            try dsimp only at h ⊢
            simp only [go_sem]
            injection h with h; subst h
            exact Sat.ok hQ
          · intro K1 s1 hb1 he1
            try dsimp only
            conv => arg 1; arg 7; unfold L58_0 loopAt S03.c58 Tryd.f58; simp only [loopIn, Option.getD_some, if_true]
            simp only [go_sem, he1]
            exact hb1
          · intro K1 k1 i1 x1 s1 n1 hR1 hE1 hb1 hx1 hi1 hw1 ih1 h
            try dsimp only at h ⊢
            conv => arg 1; arg 7; unfold L58_0 loopAt S03.c58 Tryd.f58; simp only [loopIn, Option.getD_some, if_true]
            obtain ⟨v2, e_v2, h⟩ := ob h
            have e_v2c : call Tryd.prog T H (.fn 58) [.p (.agg [.sl none 1 (List.map rowI a0.Ranks)]), .p (.agg [iv x1.Sym, .sl none 2 (List.map row_Tree x1.Kids)])] [] = some (.ret (.p (bv v2)), []) := ih a0 x1 v2 e_v2
            by_cases c4 : v2 = true
            · have h := iteT h c4
              simp only [go_sem, hx1, hi1, hw1, e_v2c, c4, hR1, hE1]
              exact ih1 () h
            · have h := iteF h c4
              have c4 := eq_false_of_ne_true c4
              simp only [go_sem, hx1, hi1, hw1, e_v2c, c4, hR1, hE1]
              injection h with h; subst h
              exact Sat.ok hQ
        · have h := iteF h c3
          have c3b : ((a1.Kids.length : Int) != v1) = true := bneT c3
          simp only [go_sem, c1, c2, e_v1a, e_v1b, c3b]
          injection h with h; subst h
          exact Sat.ok hQ

def ref01_Valid (n : Nat) (a0 : Alphabet) (a1 : Tree) : Option Bool :=
  (ref01_ValidAlphabet a0).bind fun v1 =>
  if v1 = true then
    (ref01_Few n a1 300).bind fun v2 =>
    if v2 = true then
      (ref01_shaped n a0 a1).bind fun v3 =>
      some v3
    else
      some false
  else
    some false
theorem spec16 (n : Nat) (a0 : Alphabet) (a1 : Tree) (r : Bool) (h : ref01_Valid n a0 a1 = some r) :
    call Tryd.prog T H (.fn 16) [.p (.agg [.sl none 1 (List.map rowI a0.Ranks)]), .p (.agg [iv a1.Sym, .sl none 2 (List.map row_Tree a1.Kids)])] [] = some (.ret (.p (bv r)), []) := by
  refine Sat.fn fun Q hQ => ?_
  unfold ref01_Valid at h
  rw [call16]
  conv => arg 1; arg 7; unfold S03.c16 Tryd.f16; simp only [Option.getD_some]
  obtain ⟨v1, e_v1, h⟩ := ob h
  have e_v1c : call Tryd.prog T H (.fn 57) [.p (.agg [.sl none 1 (List.map rowI a0.Ranks)])] [] = some (.ret (.p (bv v1)), []) := spec57 a0 v1 e_v1
  by_cases c1 : v1 = true
  · have h := iteT h c1
    obtain ⟨v2, e_v2, h⟩ := ob h
    have e_v2c : call Tryd.prog T H (.fn 20) [.p (.agg [iv a1.Sym, .sl none 2 (List.map row_Tree a1.Kids)]), .p (iv 300)] [] = some (.ret (.p (bv v2)), []) := spec20 n a1 300 v2 e_v2
    by_cases c2 : v2 = true
    · have h := iteT h c2
      obtain ⟨v3, e_v3, h⟩ := ob h
      have e_v3c : call Tryd.prog T H (.fn 58) [.p (.agg [.sl none 1 (List.map rowI a0.Ranks)]), .p (.agg [iv a1.Sym, .sl none 2 (List.map row_Tree a1.Kids)])] [] = some (.ret (.p (bv v3)), []) := spec58 n a0 a1 v3 e_v3
      simp only [go_sem, e_v1c, c1, e_v2c, c2, e_v3c]
      injection h with h; subst h
      exact Sat.ok hQ
    · have h := iteF h c2
      have c2 := eq_false_of_ne_true c2
      simp only [go_sem, e_v1c, c1, e_v2c, c2]
      injection h with h; subst h
      exact Sat.ok hQ
  · have h := iteF h c1
    have c1 := eq_false_of_ne_true c1
    simp only [go_sem, e_v1c, c1]
    injection h with h; subst h
    exact Sat.ok hQ

def ref03_Valid (a0 : Alphabet) (a1 : Automaton) : Option Bool :=
  (ref01_ValidAlphabet a0).bind fun v1 =>
  if v1 = true then
    if a1.States < 0 then
      some false
    else
      if 300 < a1.States then
        some false
      else
        if 20000 < (a1.Rules.length : Int) then
          some false
        else
          rangeL a1.Final () (fun k1 i1 x1 (s1 : Unit) n1 =>
            if x1 < 0 then
              some false
            else
              if a1.States ≤ x1 then
                some false
              else
                if 0 < (i1 : Int) then
                  (idx a1.Final (w64 ((i1 : Int) - 1))).bind fun v3 =>
                  if x1 ≤ v3 then
                    some false
                  else
                    n1 ()
                else
                  n1 ()) fun s1 =>
          rangeL a1.Rules () (fun k3 i3 x3 (s3 : Unit) n3 =>
            if x3.Sym < 0 then
              some false
            else
              if (a0.Ranks.length : Int) ≤ x3.Sym then
                some false
              else
                (idx a0.Ranks x3.Sym).bind fun v2 =>
                if (x3.From.length : Int) = v2 then
                  if x3.To < 0 then
                    some false
                  else
                    if a1.States ≤ x3.To then
                      some false
                    else
                      rangeL x3.From () (fun k4 i4 x4 (s4 : Unit) n4 =>
                        if x4 < 0 then
                          some false
                        else
                          if a1.States ≤ x4 then
                            some false
                          else
                            n4 ()) fun s4 =>
                      n3 ()
                else
                  some false) fun s3 =>
          some true
  else
    some false
theorem spec22 (a0 : Alphabet) (a1 : Automaton) (r : Bool) (h : ref03_Valid a0 a1 = some r) :
    call Tryd.prog T H (.fn 22) [.p (.agg [.sl none 1 (List.map rowI a0.Ranks)]), .p (.agg [iv a1.States, .sl none 1 (List.map rowI a1.Final), .sl none 3 (List.map row_Rule a1.Rules)])] [] = some (.ret (.p (bv r)), []) := by
  refine Sat.fn fun Q hQ => ?_
  unfold ref03_Valid at h
  rw [call22]
  conv => arg 1; arg 7; unfold S03.c22 Tryd.f22; simp only [Option.getD_some]
  obtain ⟨v1, e_v1, h⟩ := ob h
  have e_v1c : call Tryd.prog T H (.fn 57) [.p (.agg [.sl none 1 (List.map rowI a0.Ranks)])] [] = some (.ret (.p (bv v1)), []) := spec57 a0 v1 e_v1
  by_cases c1 : v1 = true
  · have h := iteT h c1
    by_cases c2 : a1.States < 0
    · have h := iteT h c2
      simp only [go_sem, e_v1c, c1, c2]
      injection h with h; subst h
      exact Sat.ok hQ
    · have h := iteF h c2
      by_cases c3 : 300 < a1.States
      · have h := iteT h c3
        simp only [go_sem, e_v1c, c1, c2, c3]
        injection h with h; subst h
        exact Sat.ok hQ
      · have h := iteF h c3
        by_cases c4 : 20000 < (a1.Rules.length : Int)
        · have h := iteT h c4
          simp only [go_sem, e_v1c, c1, c2, c3, c4]
          injection h with h; subst h
          exact Sat.ok hQ
        · have h := iteF h c4
          simp only [go_sem, e_v1c, c1, c2, c3, c4]
          refine run_rangeL (c := L22_0) (live := [2, 3, 31, 32, 33]) (by simp only [go_sem]) (M := fun i1 (s1 : Unit) => [(2, .ptr 0 0), (3, .ptr 1 0), (31, .p (.sl none 1 (List.map rowI a1.Final))), (32, .p (iv (a1.Final.length : Int))), (33, .p (iv (i1 : Int)))]) (Z := fun i1 (s1 : Unit) => [.cells [.p (.sl none 1 (List.map rowI a0.Ranks))], .cells [.p (iv a1.States), .p (.sl none 1 (List.map rowI a1.Final)), .p (.sl none 3 (List.map row_Rule a1.Rules))]]) (N := fun (s1 : Unit) => ⟨[(2, .ptr 0 0), (3, .ptr 1 0)], [.cells [.p (.sl none 1 (List.map rowI a0.Ranks))], .cells [.p (iv a1.States), .p (.sl none 1 (List.map rowI a1.Final)), .p (.sl none 3 (List.map row_Rule a1.Rules))]], [], none, false⟩) h rfl rfl (fun _ _ => rfl) ?_ ?_ ?_
          · intro s1 h
            try dsimp only at h ⊢
            simp only [go_sem]
            refine run_rangeL (c := L22_2) (live := [2, 3, 62, 63, 64]) (by simp only [go_sem]) (M := fun i3 (s3 : Unit) => [(2, .ptr 0 0), (3, .ptr 1 0), (62, .p (.sl none 3 (List.map row_Rule a1.Rules))), (63, .p (iv (a1.Rules.length : Int))), (64, .p (iv (i3 : Int)))]) (Z := fun i3 (s3 : Unit) => [.cells [.p (.sl none 1 (List.map rowI a0.Ranks))], .cells [.p (iv a1.States), .p (.sl none 1 (List.map rowI a1.Final)), .p (.sl none 3 (List.map row_Rule a1.Rules))]]) (N := fun (s3 : Unit) => ⟨[], [.cells [.p (.sl none 1 (List.map rowI a0.Ranks))], .cells [.p (iv a1.States), .p (.sl none 1 (List.map rowI a1.Final)), .p (.sl none 3 (List.map row_Rule a1.Rules))]], [], none, false⟩) h rfl rfl (fun _ _ => rfl) ?_ ?_ ?_
            · intro s3 h
              try dsimp only at h ⊢
              simp only [go_sem]
              injection h with h; subst h
              exact Sat.ok hQ
            · intro K3 s3 hb3 he3
              try dsimp only
              conv => arg 1; arg 7; unfold L22_2 loopAt S03.c22 Tryd.f22; simp only [loopIn, Option.getD_some, if_true]
              simp only [go_sem, he3]
              exact hb3
            · intro K3 k3 i3 x3 s3 n3 hR3 hE3 hb3 hx3 hi3 hw3 ih3 h
              try dsimp only at h ⊢
              conv => arg 1; arg 7; unfold L22_2 loopAt S03.c22 Tryd.f22; simp only [loopIn, Option.getD_some, if_true]
              by_cases c5 : x3.Sym < 0
              · have h := iteT h c5
                simp only [go_sem, hx3, hi3, hw3, c5, hR3, hE3]
                injection h with h; subst h
                exact Sat.ok hQ
              · have h := iteF h c5
                by_cases c6 : (a0.Ranks.length : Int) ≤ x3.Sym
                · have h := iteT h c6
                  simp only [go_sem, hx3, hi3, hw3, c5, c6, hR3, hE3]
                  injection h with h; subst h
                  exact Sat.ok hQ
                · have h := iteF h c6
                  obtain ⟨v2, e_v2, h⟩ := ob h
                  obtain ⟨e_v2a, e_v2b⟩ := idx_some e_v2
                  by_cases c7 : (x3.From.length : Int) = v2
                  · have h := iteT h c7
                    have c7b : ((x3.From.length : Int) != v2) = false := bneF c7
                    by_cases c8 : x3.To < 0
                    · have h := iteT h c8
                      simp only [go_sem, hx3, hi3, hw3, c5, c6, e_v2a, e_v2b, c7b, c8, hR3, hE3]
                      injection h with h; subst h
                      exact Sat.ok hQ
                    · have h := iteF h c8
                      by_cases c9 : a1.States ≤ x3.To
                      · have h := iteT h c9
                        simp only [go_sem, hx3, hi3, hw3, c5, c6, e_v2a, e_v2b, c7b, c8, c9, hR3, hE3]
                        injection h with h; subst h
                        exact Sat.ok hQ
                      · have h := iteF h c9
                        simp only [go_sem, hx3, hi3, hw3, c5, c6, e_v2a, e_v2b, c7b, c8, c9, hR3, hE3]
                        refine run_rangeL (c := L22_4) (live := [2, 3, 62, 63, 64, 104, 105, 106]) (by simp only [go_sem]) (M := fun i4 (s4 : Unit) => [(2, .ptr 0 0), (3, .ptr 1 0), (62, .p (.sl none 3 (List.map row_Rule a1.Rules))), (63, .p (iv (a1.Rules.length : Int))), (64, .p (iv (i3 : Int))), (104, .p (.sl none 1 (List.map rowI x3.From))), (105, .p (iv (x3.From.length : Int))), (106, .p (iv (i4 : Int)))]) (Z := fun i4 (s4 : Unit) => [.cells [.p (.sl none 1 (List.map rowI a0.Ranks))], .cells [.p (iv a1.States), .p (.sl none 1 (List.map rowI a1.Final)), .p (.sl none 3 (List.map row_Rule a1.Rules))], .cells [.p (iv x3.Sym), .p (.sl none 1 (List.map rowI x3.From)), .p (iv x3.To)]]) (N := fun (s4 : Unit) => ⟨[(2, .ptr 0 0), (3, .ptr 1 0), (62, .p (.sl none 3 (List.map row_Rule a1.Rules))), (63, .p (iv (a1.Rules.length : Int))), (64, .p (iv (i3 : Int)))], [.cells [.p (.sl none 1 (List.map rowI a0.Ranks))], .cells [.p (iv a1.States), .p (.sl none 1 (List.map rowI a1.Final)), .p (.sl none 3 (List.map row_Rule a1.Rules))], .cells [.p (iv x3.Sym), .p (.sl none 1 (List.map rowI x3.From)), .p (iv x3.To)]], [], none, false⟩) h rfl rfl (fun _ _ => rfl) ?_ ?_ ?_
                        · intro s4 h
                          try dsimp only at h ⊢
                          simp only [go_sem, hw3, hR3, hE3]
                          exact ih3 () h
                        · intro K4 s4 hb4 he4
                          try dsimp only
                          conv => arg 1; arg 7; unfold L22_4 loopAt S03.c22 Tryd.f22; simp only [loopIn, Option.getD_some, if_true]
                          simp only [go_sem, he4]
                          exact hb4
                        · intro K4 k4 i4 x4 s4 n4 hR4 hE4 hb4 hx4 hi4 hw4 ih4 h
                          try dsimp only at h ⊢
                          conv => arg 1; arg 7; unfold L22_4 loopAt S03.c22 Tryd.f22; simp only [loopIn, Option.getD_some, if_true]
                          by_cases c10 : x4 < 0
                          · have h := iteT h c10
                            simp only [go_sem, hx4, hi4, hw4, c10, hw3, hR3, hE3, hR4, hE4]
                            injection h with h; subst h
                            exact Sat.ok hQ
                          · have h := iteF h c10
                            by_cases c11 : a1.States ≤ x4
                            · have h := iteT h c11
                              simp only [go_sem, hx4, hi4, hw4, c10, c11, hw3, hR3, hE3, hR4, hE4]
                              injection h with h; subst h
                              exact Sat.ok hQ
                            · have h := iteF h c11
                              simp only [go_sem, hx4, hi4, hw4, c10, c11, hw3, hR3, hE3, hR4, hE4]
                              exact ih4 () h
                  · have h := iteF h c7
                    have c7b : ((x3.From.length : Int) != v2) = true := bneT c7
                    simp only [go_sem, hx3, hi3, hw3, c5, c6, e_v2a, e_v2b, c7b, hR3, hE3]
                    injection h with h; subst h
                    exact Sat.ok hQ
          · intro K1 s1 hb1 he1
            try dsimp only
            conv => arg 1; arg 7; unfold L22_0 loopAt S03.c22 Tryd.f22; simp only [loopIn, Option.getD_some, if_true]
            simp only [go_sem, he1]
            exact hb1
          · intro K1 k1 i1 x1 s1 n1 hR1 hE1 hb1 hx1 hi1 hw1 ih1 h
            try dsimp only at h ⊢
            conv => arg 1; arg 7; unfold L22_0 loopAt S03.c22 Tryd.f22; simp only [loopIn, Option.getD_some, if_true]
            by_cases c12 : x1 < 0
            · have h := iteT h c12
              simp only [go_sem, hx1, hi1, hw1, c12, hR1, hE1]
              injection h with h; subst h
              exact Sat.ok hQ
            · have h := iteF h c12
              by_cases c13 : a1.States ≤ x1
              · have h := iteT h c13
                simp only [go_sem, hx1, hi1, hw1, c12, c13, hR1, hE1]
                injection h with h; subst h
                exact Sat.ok hQ
              · have h := iteF h c13
                by_cases c14 : 0 < (i1 : Int)
                · have h := iteT h c14
                  obtain ⟨v3, e_v3, h⟩ := ob h
                  obtain ⟨e_v3a, e_v3b⟩ := idx_some e_v3
                  by_cases c15 : x1 ≤ v3
                  · have h := iteT h c15
                    simp only [go_sem, hx1, hi1, hw1, c12, c13, c14, e_v3a, e_v3b, c15, hR1, hE1]
                    injection h with h; subst h
                    exact Sat.ok hQ
                  · have h := iteF h c15
                    simp only [go_sem, hx1, hi1, hw1, c12, c13, c14, e_v3a, e_v3b, c15, hR1, hE1]
                    exact ih1 () h
                · have h := iteF h c14
                  simp only [go_sem, hx1, hi1, hw1, c12, c13, c14, hR1, hE1]
                  exact ih1 () h
  · have h := iteF h c1
    have c1 := eq_false_of_ne_true c1
    simp only [go_sem, e_v1c, c1]
    injection h with h; subst h
    exact Sat.ok hQ

def ref03_In (a0 : List Int) (a1 : Int) : Option Bool :=
  rangeL a0 () (fun k1 i1 x1 (s1 : Unit) n1 =>
    if x1 = a1 then
      some true
    else
      n1 ()) fun s1 =>
  some false
theorem spec18 (a0 : List Int) (a1 : Int) (r : Bool) (h : ref03_In a0 a1 = some r) :
    call Tryd.prog T H (.fn 18) [.p (.sl none 1 (List.map rowI a0)), .p (iv a1)] [] = some (.ret (.p (bv r)), []) := by
  refine Sat.fn fun Q hQ => ?_
  unfold ref03_In at h
  rw [call18]
  conv => arg 1; arg 7; unfold S03.c18 Tryd.f18; simp only [Option.getD_some]
  simp only [go_sem]
  refine run_rangeL (c := L18_0) (live := [1, 7, 8, 9]) (by simp only [go_sem]) (M := fun i1 (s1 : Unit) => [(1, .p (iv a1)), (7, .p (.sl none 1 (List.map rowI a0))), (8, .p (iv (a0.length : Int))), (9, .p (iv (i1 : Int)))]) (Z := fun i1 (s1 : Unit) => []) (N := fun (s1 : Unit) => ⟨[], [], [], none, false⟩) h rfl rfl (fun _ _ => rfl) ?_ ?_ ?_
  · intro s1 h
    try dsimp only at h ⊢
    simp only [go_sem]
    injection h with h; subst h
    exact Sat.ok hQ
  · intro K1 s1 hb1 he1
    try dsimp only
    conv => arg 1; arg 7; unfold L18_0 loopAt S03.c18 Tryd.f18; simp only [loopIn, Option.getD_some, if_true]
    simp only [go_sem, he1]
    exact hb1
  · intro K1 k1 i1 x1 s1 n1 hR1 hE1 hb1 hx1 hi1 hw1 ih1 h
    try dsimp only at h ⊢
    conv => arg 1; arg 7; unfold L18_0 loopAt S03.c18 Tryd.f18; simp only [loopIn, Option.getD_some, if_true]
    by_cases c1 : x1 = a1
    · have h := iteT h c1
      have c1b : (x1 == a1) = true := beqT c1
      simp only [go_sem, hx1, hi1, hw1, c1b, hR1, hE1]
      injection h with h; subst h
      exact Sat.ok hQ
    · have h := iteF h c1
      have c1b : (x1 == a1) = false := beqF c1
      simp only [go_sem, hx1, hi1, hw1, c1b, hR1, hE1]
      exact ih1 () h

def ref03_Insert (n : Nat) (a0 : List Int) (a1 : Int) : Option (List Int) :=
  whileL n 0 (fun k1 (s1 : Int) n1 =>
    if s1 < (a0.length : Int) then
      (idx a0 s1).bind fun v12 =>
      if v12 < a1 then
        n1 (w64 (s1 + 1))
      else
        k1 s1
    else
      k1 s1) fun s1 =>
  if s1 < (a0.length : Int) then
    (idx a0 s1).bind fun v1 =>
    if v1 = a1 then
      some a0
    else
      (slcT a0 s1).bind fun v2 =>
      (app 8 ([] : List Int) v2).bind fun v3 =>
      (app 8 v3 [a1]).bind fun v4 =>
      (slcF a0 s1).bind fun v5 =>
      (app 8 v4 v5).bind fun v6 =>
      some v6
  else
    (slcT a0 s1).bind fun v7 =>
    (app 8 ([] : List Int) v7).bind fun v8 =>
    (app 8 v8 [a1]).bind fun v9 =>
    (slcF a0 s1).bind fun v10 =>
    (app 8 v9 v10).bind fun v11 =>
    some v11
theorem spec92 (n : Nat) (a0 : List Int) (a1 : Int) (r : List Int) (h : ref03_Insert n a0 a1 = some r) :
    call Tryd.prog T H (.fn 92) [.p (.sl none 1 (List.map rowI a0)), .p (iv a1)] [] = some (.ret (.p (.sl none 1 (List.map rowI r))), []) := by
  refine Sat.fn fun Q hQ => ?_
  unfold ref03_Insert at h
  rw [call92]
  conv => arg 1; arg 7; unfold S03.c92 Tryd.f92; simp only [Option.getD_some]
  simp only [go_sem]
  refine run_whileL (c := L92_0) (live := [0, 1, 5]) (by simp only [go_sem]) (M := fun (s1 : Int) => [(0, .p (.sl none 1 (List.map rowI a0))), (1, .p (iv a1)), (5, .p (iv s1))]) (Z := fun (s1 : Int) => []) (N := fun (s1 : Int) => ⟨[(0, .p (.sl none 1 (List.map rowI a0))), (1, .p (iv a1)), (5, .p (iv s1))], [], [], none, false⟩) h rfl rfl (fun _ => rfl) ?_ ?_
  · intro s1 h
    try dsimp only at h ⊢
    by_cases c1 : s1 < (a0.length : Int)
    · have h := iteT h c1
      obtain ⟨v1, e_v1, h⟩ := ob h
      obtain ⟨e_v1a, e_v1b⟩ := idx_some e_v1
      by_cases c2 : v1 = a1
      · have h := iteT h c2
        have c2b : (v1 == a1) = true := beqT c2
        simp only [go_sem, c1, e_v1a, e_v1b, c2b]
        injection h with h; subst h
        exact Sat.ok hQ
      · have h := iteF h c2
        have c2b : (v1 == a1) = false := beqF c2
        obtain ⟨v2, e_v2, h⟩ := ob h
        obtain ⟨e_v21, e_v22, e_v23, e_v24⟩ := slcT_some e_v2
        obtain ⟨v3, e_v3, h⟩ := ob h
        have e_v3a : boundOk (v2.length) 8 = true := bnd_of (by have := (app_some e_v3).1; simpa using this) (by decide)
        have e_v3b : [] ++ (List.map rowI v2) = List.map rowI v3 := by rw [(app_some e_v3).2]; simp [rowI]
        have e_v3b : (List.map rowI v2) = List.map rowI v3 := by rw [← e_v3b]; rfl
        have e_v3z : boundOk (v3.length) 8 = true := by rw [(app_some e_v3).2]; simpa using e_v3a
        obtain ⟨v4, e_v4, h⟩ := ob h
        have e_v4a : boundOk (v3.length + 1) 8 = true := bnd_of (by have := (app_some e_v4).1; simpa using this) (by decide)
        have e_v4b : (List.map rowI v3) ++ [[iv a1]] = List.map rowI v4 := by rw [(app_some e_v4).2]; simp [rowI]
        obtain ⟨v5, e_v5, h⟩ := ob h
        obtain ⟨e_v51, e_v52, e_v53, e_v54⟩ := slcF_some e_v5
        obtain ⟨v6, e_v6, h⟩ := ob h
        have e_v6a : boundOk (v4.length + v5.length) 8 = true := bnd_of (by have := (app_some e_v6).1; simpa using this) (by decide)
        have e_v6b : (List.map rowI v4) ++ (List.map rowI v5) = List.map rowI v6 := by rw [(app_some e_v6).2]; simp [rowI]
        have e_v6b : List.map rowI (v4 ++ v5) = List.map rowI v6 := by rw [(app_some e_v6).2]
        simp only [go_sem, c1, e_v1a, e_v1b, c2b, e_v21, e_v23, ← e_v24, e_v3a, e_v3z, e_v3b, e_v4a, e_v4b, e_v51, e_v52, ← e_v54, e_v6a, e_v6b]
        injection h with h; subst h
        exact Sat.ok hQ
    · have h := iteF h c1
      obtain ⟨v7, e_v7, h⟩ := ob h
      obtain ⟨e_v71, e_v72, e_v73, e_v74⟩ := slcT_some e_v7
      obtain ⟨v8, e_v8, h⟩ := ob h
      have e_v8a : boundOk (v7.length) 8 = true := bnd_of (by have := (app_some e_v8).1; simpa using this) (by decide)
      have e_v8b : [] ++ (List.map rowI v7) = List.map rowI v8 := by rw [(app_some e_v8).2]; simp [rowI]
      have e_v8b : (List.map rowI v7) = List.map rowI v8 := by rw [← e_v8b]; rfl
      have e_v8z : boundOk (v8.length) 8 = true := by rw [(app_some e_v8).2]; simpa using e_v8a
      obtain ⟨v9, e_v9, h⟩ := ob h
      have e_v9a : boundOk (v8.length + 1) 8 = true := bnd_of (by have := (app_some e_v9).1; simpa using this) (by decide)
      have e_v9b : (List.map rowI v8) ++ [[iv a1]] = List.map rowI v9 := by rw [(app_some e_v9).2]; simp [rowI]
      obtain ⟨v10, e_v10, h⟩ := ob h
      obtain ⟨e_v101, e_v102, e_v103, e_v104⟩ := slcF_some e_v10
      obtain ⟨v11, e_v11, h⟩ := ob h
      have e_v11a : boundOk (v9.length + v10.length) 8 = true := bnd_of (by have := (app_some e_v11).1; simpa using this) (by decide)
      have e_v11b : (List.map rowI v9) ++ (List.map rowI v10) = List.map rowI v11 := by rw [(app_some e_v11).2]; simp [rowI]
      have e_v11b : List.map rowI (v9 ++ v10) = List.map rowI v11 := by rw [(app_some e_v11).2]
      simp only [go_sem, c1, e_v71, e_v73, ← e_v74, e_v8a, e_v8z, e_v8b, e_v9a, e_v9b, e_v101, e_v102, ← e_v104, e_v11a, e_v11b]
      injection h with h; subst h
      exact Sat.ok hQ
  · intro K1 k1 s1 n1 hR1 hE1 hb1 ih1 h
    try dsimp only at h ⊢
    conv => arg 1; arg 7; unfold L92_0 loopAt S03.c92 Tryd.f92; simp only [loopIn, Option.getD_some, if_true]
    by_cases c3 : s1 < (a0.length : Int)
    · have h := iteT h c3
      obtain ⟨v12, e_v12, h⟩ := ob h
      obtain ⟨e_v12a, e_v12b⟩ := idx_some e_v12
      by_cases c4 : v12 < a1
      · have h := iteT h c4
        simp only [go_sem, c3, e_v12a, e_v12b, c4, hR1, hE1]
        exact ih1 (w64 (s1 + 1)) h
      · have h := iteF h c4
        simp only [go_sem, c3, e_v12a, e_v12b, c4, hR1, hE1]
        exact hb1 s1 h
    · have h := iteF h c3
      simp only [go_sem, c3, hR1, hE1]
      exact hb1 s1 h

def ref03_Step (n : Nat) (a0 : Automaton) (a1 : Int) (a2 : List (List Int)) : Option (List Int) :=
  rangeL a0.Rules ([] : List Int) (fun k3 i3 x3 (s3 : (List Int)) n3 =>
    whileL n ((x3.Sym == a1), 0) (fun k4 (s4 : Bool × Int) n4 =>
      if s4.1 = true then
        if s4.2 < (a2.length : Int) then
          (idx a2 s4.2).bind fun v2 =>
          (idx x3.From s4.2).bind fun v3 =>
          (ref03_In v2 v3).bind fun v4 =>
          n4 (v4, w64 (s4.2 + 1))
        else
          k4 (true, s4.2)
      else
        k4 (false, s4.2)) fun s4 =>
    if s4.1 = true then
      (ref03_Insert n s3 x3.To).bind fun v1 =>
      n3 v1
    else
      n3 s3) fun s3 =>
  some s3
theorem spec80 (n : Nat) (a0 : Automaton) (a1 : Int) (a2 : List (List Int)) (r : List Int) (h : ref03_Step n a0 a1 a2 = some r) :
    call Tryd.prog T H (.fn 80) [.p (.agg [iv a0.States, .sl none 1 (List.map rowI a0.Final), .sl none 3 (List.map row_Rule a0.Rules)]), .p (iv a1), .p (.sl none 1 (List.map (rowL 1 rowI) a2))] [] = some (.ret (.p (.sl none 1 (List.map rowI r))), []) := by
  refine Sat.fn fun Q hQ => ?_
  unfold ref03_Step at h
  rw [call80]
  conv => arg 1; arg 7; unfold S03.c80 Tryd.f80; simp only [Option.getD_some]
  simp only [go_sem]
  refine run_rangeL (c := L80_0) (live := [1, 2, 7, 13, 14, 15]) (by simp only [go_sem]) (M := fun i3 (s3 : (List Int)) => [(1, .p (iv a1)), (2, .p (.sl none 1 (List.map (rowL 1 rowI) a2))), (7, .p (.sl none 1 (List.map rowI s3))), (13, .p (.sl none 3 (List.map row_Rule a0.Rules))), (14, .p (iv (a0.Rules.length : Int))), (15, .p (iv (i3 : Int)))]) (Z := fun i3 (s3 : (List Int)) => [.cells [.p (iv a0.States), .p (.sl none 1 (List.map rowI a0.Final)), .p (.sl none 3 (List.map row_Rule a0.Rules))]]) (N := fun (s3 : (List Int)) => ⟨[(7, .p (.sl none 1 (List.map rowI s3)))], [.cells [.p (iv a0.States), .p (.sl none 1 (List.map rowI a0.Final)), .p (.sl none 3 (List.map row_Rule a0.Rules))]], [], none, false⟩) h rfl rfl (fun _ _ => rfl) ?_ ?_ ?_
  · intro s3 h
    try dsimp only at h ⊢
    simp only [go_sem]
    injection h with h; subst h
    exact Sat.ok hQ
  · intro K3 s3 hb3 he3
    try dsimp only
    conv => arg 1; arg 7; unfold L80_0 loopAt S03.c80 Tryd.f80; simp only [loopIn, Option.getD_some, if_true]
    simp only [go_sem, he3]
    exact hb3
  · intro K3 k3 i3 x3 s3 n3 hR3 hE3 hb3 hx3 hi3 hw3 ih3 h
    try dsimp only at h ⊢
    conv => arg 1; arg 7; unfold L80_0 loopAt S03.c80 Tryd.f80; simp only [loopIn, Option.getD_some, if_true]
    simp only [go_sem, hx3, hi3, hw3, hR3, hE3]
    refine run_whileL (c := L80_2) (live := [1, 2, 7, 9, 10, 11, 13, 14, 15]) (by simp only [go_sem]) (M := fun (s4 : Bool × Int) => [(1, .p (iv a1)), (2, .p (.sl none 1 (List.map (rowL 1 rowI) a2))), (7, .p (.sl none 1 (List.map rowI s3))), (9, .ptr 1 0), (10, .p (bv s4.1)), (11, .p (iv s4.2)), (13, .p (.sl none 3 (List.map row_Rule a0.Rules))), (14, .p (iv (a0.Rules.length : Int))), (15, .p (iv (i3 : Int)))]) (Z := fun (s4 : Bool × Int) => [.cells [.p (iv a0.States), .p (.sl none 1 (List.map rowI a0.Final)), .p (.sl none 3 (List.map row_Rule a0.Rules))], .cells [.p (iv x3.Sym), .p (.sl none 1 (List.map rowI x3.From)), .p (iv x3.To)]]) (N := fun (s4 : Bool × Int) => ⟨[(1, .p (iv a1)), (2, .p (.sl none 1 (List.map (rowL 1 rowI) a2))), (7, .p (.sl none 1 (List.map rowI s3))), (9, .ptr 1 0), (10, .p (bv s4.1)), (13, .p (.sl none 3 (List.map row_Rule a0.Rules))), (14, .p (iv (a0.Rules.length : Int))), (15, .p (iv (i3 : Int)))], [.cells [.p (iv a0.States), .p (.sl none 1 (List.map rowI a0.Final)), .p (.sl none 3 (List.map row_Rule a0.Rules))], .cells [.p (iv x3.Sym), .p (.sl none 1 (List.map rowI x3.From)), .p (iv x3.To)]], [], none, false⟩) h rfl rfl (fun _ => rfl) ?_ ?_
    · intro s4 h
      try dsimp only at h ⊢
      by_cases c1 : s4.1 = true
      · have h := iteT h c1
        obtain ⟨v1, e_v1, h⟩ := ob h
        have e_v1c : call Tryd.prog T H (.fn 92) [.p (.sl none 1 (List.map rowI s3)), .p (iv x3.To)] [] = some (.ret (.p (.sl none 1 (List.map rowI v1))), []) := spec92 n s3 x3.To v1 e_v1
        simp only [go_sem, c1, e_v1c, hw3, hR3, hE3]
        exact ih3 v1 h
      · have h := iteF h c1
        have c1 := eq_false_of_ne_true c1
        simp only [go_sem, c1, hw3, hR3, hE3]
        exact ih3 s3 h
    · intro K4 k4 s4 n4 hR4 hE4 hb4 ih4 h
      try dsimp only at h ⊢
      conv => arg 1; arg 7; unfold L80_2 loopAt S03.c80 Tryd.f80; simp only [loopIn, Option.getD_some, if_true]
      by_cases c2 : s4.1 = true
      · have h := iteT h c2
        by_cases c3 : s4.2 < (a2.length : Int)
        · have h := iteT h c3
          obtain ⟨v2, e_v2, h⟩ := ob h
          obtain ⟨e_v2a, e_v2b⟩ := idx_some e_v2
          obtain ⟨v3, e_v3, h⟩ := ob h
          obtain ⟨e_v3a, e_v3b⟩ := idx_some e_v3
          obtain ⟨v4, e_v4, h⟩ := ob h
          have e_v4c : call Tryd.prog T H (.fn 18) [.p (.sl none 1 (List.map rowI v2)), .p (iv v3)] [] = some (.ret (.p (bv v4)), []) := spec18 v2 v3 v4 e_v4
          simp only [go_sem, c2, c3, e_v2a, e_v2b, e_v3a, e_v3b, e_v4c, hw3, hR3, hE3, hR4, hE4]
          exact ih4 (v4, w64 (s4.2 + 1)) h
        · have h := iteF h c3
          simp only [go_sem, c2, c3, hw3, hR3, hE3, hR4, hE4]
          exact hb4 (true, s4.2) h
      · have h := iteF h c2
        have c2 := eq_false_of_ne_true c2
        simp only [go_sem, c2, hw3, hR3, hE3, hR4, hE4]
        exact hb4 (false, s4.2) h

def ref03_Of : Nat → Automaton → Tree → Option (List Int)
  | 0, _, _ => none
  | n + 1, a0, a1 =>
    rangeL a1.Kids ([] : List (List Int)) (fun k1 i1 x1 (s1 : (List (List Int))) n1 =>
      (ref03_Of n a0 x1).bind fun v2 =>
      (app 24 s1 [v2]).bind fun v3 =>
      n1 v3) fun s1 =>
    (ref03_Step n a0 a1.Sym s1).bind fun v1 =>
    some v1
theorem spec53 : ∀ (n : Nat), (∀ (a0 : Automaton) (a1 : Tree) (r : List Int), ref03_Of n a0 a1 = some r →
    call Tryd.prog T H (.fn 53) [.p (.agg [iv a0.States, .sl none 1 (List.map rowI a0.Final), .sl none 3 (List.map row_Rule a0.Rules)]), .p (.agg [iv a1.Sym, .sl none 2 (List.map row_Tree a1.Kids)])] [] = some (.ret (.p (.sl none 1 (List.map rowI r))), [])) := by
  intro n
  induction n with
  | zero => intro a0 a1 r h; cases h
  | succ n ih =>
    intro a0 a1 r h
    refine Sat.fn fun Q hQ => ?_
    rw [ref03_Of] at h
    rw [call53]
    conv => arg 1; arg 7; unfold S03.c53 Tryd.f53; simp only [Option.getD_some]
    simp only [go_sem]
    refine run_rangeL (c := L53_0) (live := [2, 3, 5, 9, 10, 11]) (by simp only [go_sem]) (M := fun i1 (s1 : (List (List Int))) => [(2, .ptr 0 0), (3, .ptr 1 0), (5, .own 1 (List.map (rowL 1 rowI) s1)), (9, .p (.sl none 2 (List.map row_Tree a1.Kids))), (10, .p (iv (a1.Kids.length : Int))), (11, .p (iv (i1 : Int)))]) (Z := fun i1 (s1 : (List (List Int))) => [.cells [.p (iv a0.States), .p (.sl none 1 (List.map rowI a0.Final)), .p (.sl none 3 (List.map row_Rule a0.Rules))], .cells [.p (iv a1.Sym), .p (.sl none 2 (List.map row_Tree a1.Kids))]]) (N := fun (s1 : (List (List Int))) => ⟨[(2, .ptr 0 0), (3, .ptr 1 0), (5, .own 1 (List.map (rowL 1 rowI) s1))], [.cells [.p (iv a0.States), .p (.sl none 1 (List.map rowI a0.Final)), .p (.sl none 3 (List.map row_Rule a0.Rules))], .cells [.p (iv a1.Sym), .p (.sl none 2 (List.map row_Tree a1.Kids))]], [], none, false⟩) h rfl rfl (fun _ _ => rfl) ?_ ?_ ?_
    · intro s1 h
      try dsimp only at h ⊢
      obtain ⟨v1, e_v1, h⟩ := ob h
      have e_v1c : call Tryd.prog T H (.fn 80) [.p (.agg [iv a0.States, .sl none 1 (List.map rowI a0.Final), .sl none 3 (List.map row_Rule a0.Rules)]), .p (iv a1.Sym), .p (.sl none 1 (List.map (rowL 1 rowI) s1))] [] = some (.ret (.p (.sl none 1 (List.map rowI v1))), []) := spec80 n a0 a1.Sym s1 v1 e_v1
      simp only [go_sem, e_v1c]
      injection h with h; subst h
      exact Sat.ok hQ
    · intro K1 s1 hb1 he1
      try dsimp only
      conv => arg 1; arg 7; unfold L53_0 loopAt S03.c53 Tryd.f53; simp only [loopIn, Option.getD_some, if_true]
      simp only [go_sem, he1]
      exact hb1
    · intro K1 k1 i1 x1 s1 n1 hR1 hE1 hb1 hx1 hi1 hw1 ih1 h
      try dsimp only at h ⊢
      conv => arg 1; arg 7; unfold L53_0 loopAt S03.c53 Tryd.f53; simp only [loopIn, Option.getD_some, if_true]
      obtain ⟨v2, e_v2, h⟩ := ob h
      have e_v2c : call Tryd.prog T H (.fn 53) [.p (.agg [iv a0.States, .sl none 1 (List.map rowI a0.Final), .sl none 3 (List.map row_Rule a0.Rules)]), .p (.agg [iv x1.Sym, .sl none 2 (List.map row_Tree x1.Kids)])] [] = some (.ret (.p (.sl none 1 (List.map rowI v2))), []) := ih a0 x1 v2 e_v2
      obtain ⟨v3, e_v3, h⟩ := ob h
      have e_v3a : boundOk (s1.length + 1) 24 = true := bnd_of (by have := (app_some e_v3).1; simpa using this) (by decide)
      have e_v3b : (List.map (rowL 1 rowI) s1) ++ [[.sl none 1 (List.map rowI v2)]] = List.map (rowL 1 rowI) v3 := by rw [(app_some e_v3).2]; simp [rowI, rowL]
      simp only [go_sem, hx1, hi1, hw1, e_v2c, e_v3a, e_v3b, hR1, hE1]
      exact ih1 v3 h

def ref03_Meet (a0 : List Int) (a1 : List Int) : Option Bool :=
  rangeL a0 () (fun k1 i1 x1 (s1 : Unit) n1 =>
    (ref03_In a1 x1).bind fun v1 =>
    if v1 = true then
      some true
    else
      n1 ()) fun s1 =>
  some false
theorem spec63 (a0 : List Int) (a1 : List Int) (r : Bool) (h : ref03_Meet a0 a1 = some r) :
    call Tryd.prog T H (.fn 63) [.p (.sl none 1 (List.map rowI a0)), .p (.sl none 1 (List.map rowI a1))] [] = some (.ret (.p (bv r)), []) := by
  refine Sat.fn fun Q hQ => ?_
  unfold ref03_Meet at h
  rw [call63]
  conv => arg 1; arg 7; unfold S03.c63 Tryd.f63; simp only [Option.getD_some]
  simp only [go_sem]
  refine run_rangeL (c := L63_0) (live := [1, 7, 8, 9]) (by simp only [go_sem]) (M := fun i1 (s1 : Unit) => [(1, .p (.sl none 1 (List.map rowI a1))), (7, .p (.sl none 1 (List.map rowI a0))), (8, .p (iv (a0.length : Int))), (9, .p (iv (i1 : Int)))]) (Z := fun i1 (s1 : Unit) => []) (N := fun (s1 : Unit) => ⟨[], [], [], none, false⟩) h rfl rfl (fun _ _ => rfl) ?_ ?_ ?_
  · intro s1 h
    try dsimp only at h ⊢
    simp only [go_sem]
    injection h with h; subst h
    exact Sat.ok hQ
  · intro K1 s1 hb1 he1
    try dsimp only
    conv => arg 1; arg 7; unfold L63_0 loopAt S03.c63 Tryd.f63; simp only [loopIn, Option.getD_some, if_true]
    simp only [go_sem, he1]
    exact hb1
  · intro K1 k1 i1 x1 s1 n1 hR1 hE1 hb1 hx1 hi1 hw1 ih1 h
    try dsimp only at h ⊢
    conv => arg 1; arg 7; unfold L63_0 loopAt S03.c63 Tryd.f63; simp only [loopIn, Option.getD_some, if_true]
    obtain ⟨v1, e_v1, h⟩ := ob h
    have e_v1c : call Tryd.prog T H (.fn 18) [.p (.sl none 1 (List.map rowI a1)), .p (iv x1)] [] = some (.ret (.p (bv v1)), []) := spec18 a1 x1 v1 e_v1
    by_cases c1 : v1 = true
    · have h := iteT h c1
      simp only [go_sem, hx1, hi1, hw1, e_v1c, c1, hR1, hE1]
      injection h with h; subst h
      exact Sat.ok hQ
    · have h := iteF h c1
      have c1 := eq_false_of_ne_true c1
      simp only [go_sem, hx1, hi1, hw1, e_v1c, c1, hR1, hE1]
      exact ih1 () h

def ref03_Has (n : Nat) (a0 : Automaton) (a1 : Tree) : Option Bool :=
  (ref03_Of n a0 a1).bind fun v1 =>
  (ref03_Meet v1 a0.Final).bind fun v2 =>
  some v2
theorem spec24 (n : Nat) (a0 : Automaton) (a1 : Tree) (r : Bool) (h : ref03_Has n a0 a1 = some r) :
    call Tryd.prog T H (.fn 24) [.p (.agg [iv a0.States, .sl none 1 (List.map rowI a0.Final), .sl none 3 (List.map row_Rule a0.Rules)]), .p (.agg [iv a1.Sym, .sl none 2 (List.map row_Tree a1.Kids)])] [] = some (.ret (.p (bv r)), []) := by
  refine Sat.fn fun Q hQ => ?_
  unfold ref03_Has at h
  rw [call24]
  conv => arg 1; arg 7; unfold S03.c24 Tryd.f24; simp only [Option.getD_some]
  obtain ⟨v1, e_v1, h⟩ := ob h
  have e_v1c : call Tryd.prog T H (.fn 53) [.p (.agg [iv a0.States, .sl none 1 (List.map rowI a0.Final), .sl none 3 (List.map row_Rule a0.Rules)]), .p (.agg [iv a1.Sym, .sl none 2 (List.map row_Tree a1.Kids)])] [] = some (.ret (.p (.sl none 1 (List.map rowI v1))), []) := spec53 n a0 a1 v1 e_v1
  obtain ⟨v2, e_v2, h⟩ := ob h
  have e_v2c : call Tryd.prog T H (.fn 63) [.p (.sl none 1 (List.map rowI v1)), .p (.sl none 1 (List.map rowI a0.Final))] [] = some (.ret (.p (bv v2)), []) := spec63 v1 a0.Final v2 e_v2
  simp only [go_sem, e_v1c, e_v2c]
  injection h with h; subst h
  exact Sat.ok hQ

def ref01_List (a0 : List Int) (a1 : List Int) : Option Bool :=
  if (a0.length : Int) = (a1.length : Int) then
    rangeL a0 () (fun k1 i1 x1 (s1 : Unit) n1 =>
      (a1[i1]?).bind fun v1 =>
      if x1 = v1 then
        n1 ()
      else
        some false) fun s1 =>
    some true
  else
    some false
theorem spec15 (a0 : List Int) (a1 : List Int) (r : Bool) (h : ref01_List a0 a1 = some r) :
    call Tryd.prog T H (.fn 15) [.p (.sl none 1 (List.map rowI a0)), .p (.sl none 1 (List.map rowI a1))] [] = some (.ret (.p (bv r)), []) := by
  refine Sat.fn fun Q hQ => ?_
  unfold ref01_List at h
  rw [call15]
  conv => arg 1; arg 7; unfold S03.c15 Tryd.f15; simp only [Option.getD_some]
  by_cases c1 : (a0.length : Int) = (a1.length : Int)
  · have h := iteT h c1
    have c1b : ((a0.length : Int) != (a1.length : Int)) = false := bneF c1
    simp only [go_sem, c1b]
    refine run_rangeL (c := L15_0) (live := [0, 1, 12, 13]) (by simp only [go_sem]) (M := fun i1 (s1 : Unit) => [(0, .p (.sl none 1 (List.map rowI a0))), (1, .p (.sl none 1 (List.map rowI a1))), (12, .p (iv (a0.length : Int))), (13, .p (iv (i1 : Int)))]) (Z := fun i1 (s1 : Unit) => []) (N := fun (s1 : Unit) => ⟨[], [], [], none, false⟩) h rfl rfl (fun _ _ => rfl) ?_ ?_ ?_
    · intro s1 h
      try dsimp only at h ⊢
      simp only [go_sem]
      injection h with h; subst h
      exact Sat.ok hQ
    · intro K1 s1 hb1 he1
      try dsimp only
      conv => arg 1; arg 7; unfold L15_0 loopAt S03.c15 Tryd.f15; simp only [loopIn, Option.getD_some, if_true]
      simp only [go_sem, he1]
      exact hb1
    · intro K1 k1 i1 x1 s1 n1 hR1 hE1 hb1 hx1 hi1 hw1 ih1 h
      try dsimp only at h ⊢
      conv => arg 1; arg 7; unfold L15_0 loopAt S03.c15 Tryd.f15; simp only [loopIn, Option.getD_some, if_true]
      obtain ⟨v1, e_v1, h⟩ := ob h
      by_cases c2 : x1 = v1
      · have h := iteT h c2
        have c2b : (x1 != v1) = false := bneF c2
        simp only [go_sem, hx1, hi1, hw1, e_v1, c2b, hR1, hE1]
        exact ih1 () h
      · have h := iteF h c2
        have c2b : (x1 != v1) = true := bneT c2
        simp only [go_sem, hx1, hi1, hw1, e_v1, c2b, hR1, hE1]
        injection h with h; subst h
        exact Sat.ok hQ
  · have h := iteF h c1
    have c1b : ((a0.length : Int) != (a1.length : Int)) = true := bneT c1
    simp only [go_sem, c1b]
    injection h with h; subst h
    exact Sat.ok hQ

def internal_strconv_small (a0 : Int) : Option Str :=
  if a0 < 10 then
    (slc ([48, 49, 50, 51, 52, 53, 54, 55, 56, 57, 97, 98, 99, 100, 101, 102, 103, 104, 105, 106, 107, 108, 109, 110, 111, 112, 113, 114, 115, 116, 117, 118, 119, 120, 121, 122] : Str) a0 (w64 (a0 + 1))).bind fun v1 =>
    some v1
  else
    (slc ([48, 48, 48, 49, 48, 50, 48, 51, 48, 52, 48, 53, 48, 54, 48, 55, 48, 56, 48, 57, 49, 48, 49, 49, 49, 50, 49, 51, 49, 52, 49, 53, 49, 54, 49, 55, 49, 56, 49, 57, 50, 48, 50, 49, 50, 50, 50, 51, 50, 52, 50, 53, 50, 54, 50, 55, 50, 56, 50, 57, 51, 48, 51, 49, 51, 50, 51, 51, 51, 52, 51, 53, 51, 54, 51, 55, 51, 56, 51, 57, 52, 48, 52, 49, 52, 50, 52, 51, 52, 52, 52, 53, 52, 54, 52, 55, 52, 56, 52, 57, 53, 48, 53, 49, 53, 50, 53, 51, 53, 52, 53, 53, 53, 54, 53, 55, 53, 56, 53, 57, 54, 48, 54, 49, 54, 50, 54, 51, 54, 52, 54, 53, 54, 54, 54, 55, 54, 56, 54, 57, 55, 48, 55, 49, 55, 50, 55, 51, 55, 52, 55, 53, 55, 54, 55, 55, 55, 56, 55, 57, 56, 48, 56, 49, 56, 50, 56, 51, 56, 52, 56, 53, 56, 54, 56, 55, 56, 56, 56, 57, 57, 48, 57, 49, 57, 50, 57, 51, 57, 52, 57, 53, 57, 54, 57, 55, 57, 56, 57, 57] : Str) (w64 (a0 * 2)) (w64 ((w64 (a0 * 2)) + 2))).bind fun v2 =>
    some v2
theorem spec107 (a0 : Int) (r : Str) (h : internal_strconv_small a0 = some r) :
    call Tryd.prog T H (.fn 107) [.p (iv a0)] [] = some (.ret (.p (.lit (.string (bs r)))), []) := by
  refine Sat.fn fun Q hQ => ?_
  unfold internal_strconv_small at h
  rw [call107]
  conv => arg 1; arg 7; unfold S03.c107 Tryd.f107; simp only [Option.getD_some]
  by_cases c1 : a0 < 10
  · have h := iteT h c1
    obtain ⟨v1, e_v1, h⟩ := ob h
    obtain ⟨e_v11, e_v12, e_v13, e_v14, e_v15⟩ := slc_some e_v1
    try simp only [List.length_cons, List.length_nil, Nat.reduceAdd] at e_v11
    try simp only [List.length_cons, List.length_nil, Nat.reduceAdd] at e_v12
    try simp only [List.length_cons, List.length_nil, Nat.reduceAdd] at e_v13
    try simp only [List.length_cons, List.length_nil, Nat.reduceAdd] at e_v14
    simp only [go_sem, c1, e_v11, e_v12, e_v13, e_v14, ← e_v15]
    injection h with h; subst h
    exact Sat.ok hQ
  · have h := iteF h c1
    obtain ⟨v2, e_v2, h⟩ := ob h
    obtain ⟨e_v21, e_v22, e_v23, e_v24, e_v25⟩ := slc_some e_v2
    try simp only [List.length_cons, List.length_nil, Nat.reduceAdd] at e_v21
    try simp only [List.length_cons, List.length_nil, Nat.reduceAdd] at e_v22
    try simp only [List.length_cons, List.length_nil, Nat.reduceAdd] at e_v23
    try simp only [List.length_cons, List.length_nil, Nat.reduceAdd] at e_v24
    simp only [go_sem, c1, List.append_eq, List.cons_append, List.nil_append, e_v21, e_v22, e_v23, e_v24, ← e_v25]
    injection h with h; subst h
    exact Sat.ok hQ

def math_bits_Len64 (a0 : Int) : Option Int :=
  if 4294967296 ≤ a0 then
    if 65536 ≤ (shrI .u64 a0 32) then
      if 256 ≤ (shrI .u64 (shrI .u64 a0 32) 16) then
        (idx ([0, 1, 2, 2, 3, 3, 3, 3, 4, 4, 4, 4, 4, 4, 4, 4, 5, 5, 5, 5, 5, 5, 5, 5, 5, 5, 5, 5, 5, 5, 5, 5, 6, 6, 6, 6, 6, 6, 6, 6, 6, 6, 6, 6, 6, 6, 6, 6, 6, 6, 6, 6, 6, 6, 6, 6, 6, 6, 6, 6, 6, 6, 6, 6, 7, 7, 7, 7, 7, 7, 7, 7, 7, 7, 7, 7, 7, 7, 7, 7, 7, 7, 7, 7, 7, 7, 7, 7, 7, 7, 7, 7, 7, 7, 7, 7, 7, 7, 7, 7, 7, 7, 7, 7, 7, 7, 7, 7, 7, 7, 7, 7, 7, 7, 7, 7, 7, 7, 7, 7, 7, 7, 7, 7, 7, 7, 7, 7, 8, 8, 8, 8, 8, 8, 8, 8, 8, 8, 8, 8, 8, 8, 8, 8, 8, 8, 8, 8, 8, 8, 8, 8, 8, 8, 8, 8, 8, 8, 8, 8, 8, 8, 8, 8, 8, 8, 8, 8, 8, 8, 8, 8, 8, 8, 8, 8, 8, 8, 8, 8, 8, 8, 8, 8, 8, 8, 8, 8, 8, 8, 8, 8, 8, 8, 8, 8, 8, 8, 8, 8, 8, 8, 8, 8, 8, 8, 8, 8, 8, 8, 8, 8, 8, 8, 8, 8, 8, 8, 8, 8, 8, 8, 8, 8, 8, 8, 8, 8, 8, 8, 8, 8, 8, 8, 8, 8, 8, 8, 8, 8, 8, 8, 8, 8, 8, 8, 8, 8, 8, 8, 8, 8, 8, 8, 8, 8] : Str) (IntKind.u8.wrap (shrI .u64 (shrI .u64 (shrI .u64 a0 32) 16) 8))).bind fun v1 =>
        some (w64 ((w64 ((w64 (32 + 16)) + 8)) + (IntKind.i64.wrap (v1.toNat : Int))))
      else
        (idx ([0, 1, 2, 2, 3, 3, 3, 3, 4, 4, 4, 4, 4, 4, 4, 4, 5, 5, 5, 5, 5, 5, 5, 5, 5, 5, 5, 5, 5, 5, 5, 5, 6, 6, 6, 6, 6, 6, 6, 6, 6, 6, 6, 6, 6, 6, 6, 6, 6, 6, 6, 6, 6, 6, 6, 6, 6, 6, 6, 6, 6, 6, 6, 6, 7, 7, 7, 7, 7, 7, 7, 7, 7, 7, 7, 7, 7, 7, 7, 7, 7, 7, 7, 7, 7, 7, 7, 7, 7, 7, 7, 7, 7, 7, 7, 7, 7, 7, 7, 7, 7, 7, 7, 7, 7, 7, 7, 7, 7, 7, 7, 7, 7, 7, 7, 7, 7, 7, 7, 7, 7, 7, 7, 7, 7, 7, 7, 7, 8, 8, 8, 8, 8, 8, 8, 8, 8, 8, 8, 8, 8, 8, 8, 8, 8, 8, 8, 8, 8, 8, 8, 8, 8, 8, 8, 8, 8, 8, 8, 8, 8, 8, 8, 8, 8, 8, 8, 8, 8, 8, 8, 8, 8, 8, 8, 8, 8, 8, 8, 8, 8, 8, 8, 8, 8, 8, 8, 8, 8, 8, 8, 8, 8, 8, 8, 8, 8, 8, 8, 8, 8, 8, 8, 8, 8, 8, 8, 8, 8, 8, 8, 8, 8, 8, 8, 8, 8, 8, 8, 8, 8, 8, 8, 8, 8, 8, 8, 8, 8, 8, 8, 8, 8, 8, 8, 8, 8, 8, 8, 8, 8, 8, 8, 8, 8, 8, 8, 8, 8, 8, 8, 8, 8, 8, 8, 8] : Str) (IntKind.u8.wrap (shrI .u64 (shrI .u64 a0 32) 16))).bind fun v2 =>
        some (w64 ((w64 (32 + 16)) + (IntKind.i64.wrap (v2.toNat : Int))))
    else
      if 256 ≤ (shrI .u64 a0 32) then
        (idx ([0, 1, 2, 2, 3, 3, 3, 3, 4, 4, 4, 4, 4, 4, 4, 4, 5, 5, 5, 5, 5, 5, 5, 5, 5, 5, 5, 5, 5, 5, 5, 5, 6, 6, 6, 6, 6, 6, 6, 6, 6, 6, 6, 6, 6, 6, 6, 6, 6, 6, 6, 6, 6, 6, 6, 6, 6, 6, 6, 6, 6, 6, 6, 6, 7, 7, 7, 7, 7, 7, 7, 7, 7, 7, 7, 7, 7, 7, 7, 7, 7, 7, 7, 7, 7, 7, 7, 7, 7, 7, 7, 7, 7, 7, 7, 7, 7, 7, 7, 7, 7, 7, 7, 7, 7, 7, 7, 7, 7, 7, 7, 7, 7, 7, 7, 7, 7, 7, 7, 7, 7, 7, 7, 7, 7, 7, 7, 7, 8, 8, 8, 8, 8, 8, 8, 8, 8, 8, 8, 8, 8, 8, 8, 8, 8, 8, 8, 8, 8, 8, 8, 8, 8, 8, 8, 8, 8, 8, 8, 8, 8, 8, 8, 8, 8, 8, 8, 8, 8, 8, 8, 8, 8, 8, 8, 8, 8, 8, 8, 8, 8, 8, 8, 8, 8, 8, 8, 8, 8, 8, 8, 8, 8, 8, 8, 8, 8, 8, 8, 8, 8, 8, 8, 8, 8, 8, 8, 8, 8, 8, 8, 8, 8, 8, 8, 8, 8, 8, 8, 8, 8, 8, 8, 8, 8, 8, 8, 8, 8, 8, 8, 8, 8, 8, 8, 8, 8, 8, 8, 8, 8, 8, 8, 8, 8, 8, 8, 8, 8, 8, 8, 8, 8, 8, 8, 8] : Str) (IntKind.u8.wrap (shrI .u64 (shrI .u64 a0 32) 8))).bind fun v3 =>
        some (w64 ((w64 (32 + 8)) + (IntKind.i64.wrap (v3.toNat : Int))))
      else
        (idx ([0, 1, 2, 2, 3, 3, 3, 3, 4, 4, 4, 4, 4, 4, 4, 4, 5, 5, 5, 5, 5, 5, 5, 5, 5, 5, 5, 5, 5, 5, 5, 5, 6, 6, 6, 6, 6, 6, 6, 6, 6, 6, 6, 6, 6, 6, 6, 6, 6, 6, 6, 6, 6, 6, 6, 6, 6, 6, 6, 6, 6, 6, 6, 6, 7, 7, 7, 7, 7, 7, 7, 7, 7, 7, 7, 7, 7, 7, 7, 7, 7, 7, 7, 7, 7, 7, 7, 7, 7, 7, 7, 7, 7, 7, 7, 7, 7, 7, 7, 7, 7, 7, 7, 7, 7, 7, 7, 7, 7, 7, 7, 7, 7, 7, 7, 7, 7, 7, 7, 7, 7, 7, 7, 7, 7, 7, 7, 7, 8, 8, 8, 8, 8, 8, 8, 8, 8, 8, 8, 8, 8, 8, 8, 8, 8, 8, 8, 8, 8, 8, 8, 8, 8, 8, 8, 8, 8, 8, 8, 8, 8, 8, 8, 8, 8, 8, 8, 8, 8, 8, 8, 8, 8, 8, 8, 8, 8, 8, 8, 8, 8, 8, 8, 8, 8, 8, 8, 8, 8, 8, 8, 8, 8, 8, 8, 8, 8, 8, 8, 8, 8, 8, 8, 8, 8, 8, 8, 8, 8, 8, 8, 8, 8, 8, 8, 8, 8, 8, 8, 8, 8, 8, 8, 8, 8, 8, 8, 8, 8, 8, 8, 8, 8, 8, 8, 8, 8, 8, 8, 8, 8, 8, 8, 8, 8, 8, 8, 8, 8, 8, 8, 8, 8, 8, 8, 8] : Str) (IntKind.u8.wrap (shrI .u64 a0 32))).bind fun v4 =>
        some (w64 (32 + (IntKind.i64.wrap (v4.toNat : Int))))
  else
    if 65536 ≤ a0 then
      if 256 ≤ (shrI .u64 a0 16) then
        (idx ([0, 1, 2, 2, 3, 3, 3, 3, 4, 4, 4, 4, 4, 4, 4, 4, 5, 5, 5, 5, 5, 5, 5, 5, 5, 5, 5, 5, 5, 5, 5, 5, 6, 6, 6, 6, 6, 6, 6, 6, 6, 6, 6, 6, 6, 6, 6, 6, 6, 6, 6, 6, 6, 6, 6, 6, 6, 6, 6, 6, 6, 6, 6, 6, 7, 7, 7, 7, 7, 7, 7, 7, 7, 7, 7, 7, 7, 7, 7, 7, 7, 7, 7, 7, 7, 7, 7, 7, 7, 7, 7, 7, 7, 7, 7, 7, 7, 7, 7, 7, 7, 7, 7, 7, 7, 7, 7, 7, 7, 7, 7, 7, 7, 7, 7, 7, 7, 7, 7, 7, 7, 7, 7, 7, 7, 7, 7, 7, 8, 8, 8, 8, 8, 8, 8, 8, 8, 8, 8, 8, 8, 8, 8, 8, 8, 8, 8, 8, 8, 8, 8, 8, 8, 8, 8, 8, 8, 8, 8, 8, 8, 8, 8, 8, 8, 8, 8, 8, 8, 8, 8, 8, 8, 8, 8, 8, 8, 8, 8, 8, 8, 8, 8, 8, 8, 8, 8, 8, 8, 8, 8, 8, 8, 8, 8, 8, 8, 8, 8, 8, 8, 8, 8, 8, 8, 8, 8, 8, 8, 8, 8, 8, 8, 8, 8, 8, 8, 8, 8, 8, 8, 8, 8, 8, 8, 8, 8, 8, 8, 8, 8, 8, 8, 8, 8, 8, 8, 8, 8, 8, 8, 8, 8, 8, 8, 8, 8, 8, 8, 8, 8, 8, 8, 8, 8, 8] : Str) (IntKind.u8.wrap (shrI .u64 (shrI .u64 a0 16) 8))).bind fun v5 =>
        some (w64 ((w64 ((w64 (0 + 16)) + 8)) + (IntKind.i64.wrap (v5.toNat : Int))))
      else
        (idx ([0, 1, 2, 2, 3, 3, 3, 3, 4, 4, 4, 4, 4, 4, 4, 4, 5, 5, 5, 5, 5, 5, 5, 5, 5, 5, 5, 5, 5, 5, 5, 5, 6, 6, 6, 6, 6, 6, 6, 6, 6, 6, 6, 6, 6, 6, 6, 6, 6, 6, 6, 6, 6, 6, 6, 6, 6, 6, 6, 6, 6, 6, 6, 6, 7, 7, 7, 7, 7, 7, 7, 7, 7, 7, 7, 7, 7, 7, 7, 7, 7, 7, 7, 7, 7, 7, 7, 7, 7, 7, 7, 7, 7, 7, 7, 7, 7, 7, 7, 7, 7, 7, 7, 7, 7, 7, 7, 7, 7, 7, 7, 7, 7, 7, 7, 7, 7, 7, 7, 7, 7, 7, 7, 7, 7, 7, 7, 7, 8, 8, 8, 8, 8, 8, 8, 8, 8, 8, 8, 8, 8, 8, 8, 8, 8, 8, 8, 8, 8, 8, 8, 8, 8, 8, 8, 8, 8, 8, 8, 8, 8, 8, 8, 8, 8, 8, 8, 8, 8, 8, 8, 8, 8, 8, 8, 8, 8, 8, 8, 8, 8, 8, 8, 8, 8, 8, 8, 8, 8, 8, 8, 8, 8, 8, 8, 8, 8, 8, 8, 8, 8, 8, 8, 8, 8, 8, 8, 8, 8, 8, 8, 8, 8, 8, 8, 8, 8, 8, 8, 8, 8, 8, 8, 8, 8, 8, 8, 8, 8, 8, 8, 8, 8, 8, 8, 8, 8, 8, 8, 8, 8, 8, 8, 8, 8, 8, 8, 8, 8, 8, 8, 8, 8, 8, 8, 8] : Str) (IntKind.u8.wrap (shrI .u64 a0 16))).bind fun v6 =>
        some (w64 ((w64 (0 + 16)) + (IntKind.i64.wrap (v6.toNat : Int))))
    else
      if 256 ≤ a0 then
        (idx ([0, 1, 2, 2, 3, 3, 3, 3, 4, 4, 4, 4, 4, 4, 4, 4, 5, 5, 5, 5, 5, 5, 5, 5, 5, 5, 5, 5, 5, 5, 5, 5, 6, 6, 6, 6, 6, 6, 6, 6, 6, 6, 6, 6, 6, 6, 6, 6, 6, 6, 6, 6, 6, 6, 6, 6, 6, 6, 6, 6, 6, 6, 6, 6, 7, 7, 7, 7, 7, 7, 7, 7, 7, 7, 7, 7, 7, 7, 7, 7, 7, 7, 7, 7, 7, 7, 7, 7, 7, 7, 7, 7, 7, 7, 7, 7, 7, 7, 7, 7, 7, 7, 7, 7, 7, 7, 7, 7, 7, 7, 7, 7, 7, 7, 7, 7, 7, 7, 7, 7, 7, 7, 7, 7, 7, 7, 7, 7, 8, 8, 8, 8, 8, 8, 8, 8, 8, 8, 8, 8, 8, 8, 8, 8, 8, 8, 8, 8, 8, 8, 8, 8, 8, 8, 8, 8, 8, 8, 8, 8, 8, 8, 8, 8, 8, 8, 8, 8, 8, 8, 8, 8, 8, 8, 8, 8, 8, 8, 8, 8, 8, 8, 8, 8, 8, 8, 8, 8, 8, 8, 8, 8, 8, 8, 8, 8, 8, 8, 8, 8, 8, 8, 8, 8, 8, 8, 8, 8, 8, 8, 8, 8, 8, 8, 8, 8, 8, 8, 8, 8, 8, 8, 8, 8, 8, 8, 8, 8, 8, 8, 8, 8, 8, 8, 8, 8, 8, 8, 8, 8, 8, 8, 8, 8, 8, 8, 8, 8, 8, 8, 8, 8, 8, 8, 8, 8] : Str) (IntKind.u8.wrap (shrI .u64 a0 8))).bind fun v7 =>
        some (w64 ((w64 (0 + 8)) + (IntKind.i64.wrap (v7.toNat : Int))))
      else
        (idx ([0, 1, 2, 2, 3, 3, 3, 3, 4, 4, 4, 4, 4, 4, 4, 4, 5, 5, 5, 5, 5, 5, 5, 5, 5, 5, 5, 5, 5, 5, 5, 5, 6, 6, 6, 6, 6, 6, 6, 6, 6, 6, 6, 6, 6, 6, 6, 6, 6, 6, 6, 6, 6, 6, 6, 6, 6, 6, 6, 6, 6, 6, 6, 6, 7, 7, 7, 7, 7, 7, 7, 7, 7, 7, 7, 7, 7, 7, 7, 7, 7, 7, 7, 7, 7, 7, 7, 7, 7, 7, 7, 7, 7, 7, 7, 7, 7, 7, 7, 7, 7, 7, 7, 7, 7, 7, 7, 7, 7, 7, 7, 7, 7, 7, 7, 7, 7, 7, 7, 7, 7, 7, 7, 7, 7, 7, 7, 7, 8, 8, 8, 8, 8, 8, 8, 8, 8, 8, 8, 8, 8, 8, 8, 8, 8, 8, 8, 8, 8, 8, 8, 8, 8, 8, 8, 8, 8, 8, 8, 8, 8, 8, 8, 8, 8, 8, 8, 8, 8, 8, 8, 8, 8, 8, 8, 8, 8, 8, 8, 8, 8, 8, 8, 8, 8, 8, 8, 8, 8, 8, 8, 8, 8, 8, 8, 8, 8, 8, 8, 8, 8, 8, 8, 8, 8, 8, 8, 8, 8, 8, 8, 8, 8, 8, 8, 8, 8, 8, 8, 8, 8, 8, 8, 8, 8, 8, 8, 8, 8, 8, 8, 8, 8, 8, 8, 8, 8, 8, 8, 8, 8, 8, 8, 8, 8, 8, 8, 8, 8, 8, 8, 8, 8, 8, 8, 8] : Str) (IntKind.u8.wrap a0)).bind fun v8 =>
        some (w64 (0 + (IntKind.i64.wrap (v8.toNat : Int))))
theorem spec120 (a0 : Int) (r : Int) (h : math_bits_Len64 a0 = some r) :
    call Tryd.prog T H (.fn 120) [.p (.lit (.int .u64 a0))] [] = some (.ret (.p (iv r)), []) := by
  refine Sat.fn fun Q hQ => ?_
  unfold math_bits_Len64 at h
  rw [call120]
  conv => arg 1; arg 7; unfold S03.c120 Tryd.f120; simp only [Option.getD_some]
  by_cases c1 : 4294967296 ≤ a0
  · have h := iteT h c1
    by_cases c2 : 65536 ≤ (shrI .u64 a0 32)
    · have h := iteT h c2
      by_cases c3 : 256 ≤ (shrI .u64 (shrI .u64 a0 32) 16)
      · have h := iteT h c3
        obtain ⟨v1, e_v1, h⟩ := ob h
        obtain ⟨e_v1a, e_v1b⟩ := idx_some e_v1
        simp only [go_sem, c1, c2, c3, List.append_eq, List.cons_append, List.nil_append, e_v1a, e_v1b]
        injection h with h; subst h
        exact Sat.ok hQ
      · have h := iteF h c3
        obtain ⟨v2, e_v2, h⟩ := ob h
        obtain ⟨e_v2a, e_v2b⟩ := idx_some e_v2
        simp only [go_sem, c1, c2, c3, List.append_eq, List.cons_append, List.nil_append, e_v2a, e_v2b]
        injection h with h; subst h
        exact Sat.ok hQ
    · have h := iteF h c2
      by_cases c4 : 256 ≤ (shrI .u64 a0 32)
      · have h := iteT h c4
        obtain ⟨v3, e_v3, h⟩ := ob h
        obtain ⟨e_v3a, e_v3b⟩ := idx_some e_v3
        simp only [go_sem, c1, c2, c4, List.append_eq, List.cons_append, List.nil_append, e_v3a, e_v3b]
        injection h with h; subst h
        exact Sat.ok hQ
      · have h := iteF h c4
        obtain ⟨v4, e_v4, h⟩ := ob h
        obtain ⟨e_v4a, e_v4b⟩ := idx_some e_v4
        simp only [go_sem, c1, c2, c4, List.append_eq, List.cons_append, List.nil_append, e_v4a, e_v4b]
        injection h with h; subst h
        exact Sat.ok hQ
  · have h := iteF h c1
    by_cases c5 : 65536 ≤ a0
    · have h := iteT h c5
      by_cases c6 : 256 ≤ (shrI .u64 a0 16)
      · have h := iteT h c6
        obtain ⟨v5, e_v5, h⟩ := ob h
        obtain ⟨e_v5a, e_v5b⟩ := idx_some e_v5
        simp only [go_sem, c1, c5, c6, List.append_eq, List.cons_append, List.nil_append, e_v5a, e_v5b]
        injection h with h; subst h
        exact Sat.ok hQ
      · have h := iteF h c6
        obtain ⟨v6, e_v6, h⟩ := ob h
        obtain ⟨e_v6a, e_v6b⟩ := idx_some e_v6
        simp only [go_sem, c1, c5, c6, List.append_eq, List.cons_append, List.nil_append, e_v6a, e_v6b]
        injection h with h; subst h
        exact Sat.ok hQ
    · have h := iteF h c5
      by_cases c7 : 256 ≤ a0
      · have h := iteT h c7
        obtain ⟨v7, e_v7, h⟩ := ob h
        obtain ⟨e_v7a, e_v7b⟩ := idx_some e_v7
        simp only [go_sem, c1, c5, c7, List.append_eq, List.cons_append, List.nil_append, e_v7a, e_v7b]
        injection h with h; subst h
        exact Sat.ok hQ
      · have h := iteF h c7
        obtain ⟨v8, e_v8, h⟩ := ob h
        obtain ⟨e_v8a, e_v8b⟩ := idx_some e_v8
        simp only [go_sem, c1, c5, c7, List.append_eq, List.cons_append, List.nil_append, e_v8a, e_v8b]
        injection h with h; subst h
        exact Sat.ok hQ

def internal_strconv_log10Pow2 (a0 : Int) : Option Int :=
  some (shrI .i64 (w64 (a0 * 78913)) 18)
theorem spec122 (a0 : Int) (r : Int) (h : internal_strconv_log10Pow2 a0 = some r) :
    call Tryd.prog T H (.fn 122) [.p (iv a0)] [] = some (.ret (.p (iv r)), []) := by
  refine Sat.fn fun Q hQ => ?_
  unfold internal_strconv_log10Pow2 at h
  rw [call122]
  conv => arg 1; arg 7; unfold S03.c122 Tryd.f122; simp only [Option.getD_some]
  simp only [go_sem]
  injection h with h; subst h
  exact Sat.ok hQ

def internal_strconv_bool2_int (a0 : Bool) : Option Int :=
  if a0 = true then
    some 1
  else
    some 0
theorem spec123 (a0 : Bool) (r : Int) (h : internal_strconv_bool2_int a0 = some r) :
    call Tryd.prog T H (.fn 123) [.p (bv a0)] [] = some (.ret (.p (iv r)), []) := by
  refine Sat.fn fun Q hQ => ?_
  unfold internal_strconv_bool2_int at h
  rw [call123]
  conv => arg 1; arg 7; unfold S03.c123 Tryd.f123; simp only [Option.getD_some]
  by_cases c1 : a0 = true
  · have h := iteT h c1
    simp only [go_sem, c1]
    injection h with h; subst h
    exact Sat.ok hQ
  · have h := iteF h c1
    have c1 := eq_false_of_ne_true c1
    simp only [go_sem, c1]
    injection h with h; subst h
    exact Sat.ok hQ

def internal_strconv_numDigits (a0 : Int) : Option Int :=
  (math_bits_Len64 a0).bind fun v1 =>
  (internal_strconv_log10Pow2 v1).bind fun v2 =>
  (idx pow10L v2).bind fun v3 =>
  (internal_strconv_bool2_int (decide (v3 ≤ a0))).bind fun v4 =>
  some (w64 (v2 + v4))
theorem spec108 (a0 : Int) (r : Int) (h : internal_strconv_numDigits a0 = some r) :
    call Tryd.prog T H (.fn 108) [.p (.lit (.int .u64 a0))] [] = some (.ret (.p (iv r)), []) := by
  refine Sat.fn fun Q hQ => ?_
  unfold internal_strconv_numDigits at h
  rw [call108]
  conv => arg 1; arg 7; unfold S03.c108 Tryd.f108; simp only [Option.getD_some]
  obtain ⟨v1, e_v1, h⟩ := ob h
  have e_v1c : call Tryd.prog T H (.fn 120) [.p (.lit (.int .u64 a0))] [] = some (.ret (.p (iv v1)), []) := spec120 a0 v1 e_v1
  obtain ⟨v2, e_v2, h⟩ := ob h
  have e_v2c : call Tryd.prog T H (.fn 122) [.p (iv v1)] [] = some (.ret (.p (iv v2)), []) := spec122 v1 v2 e_v2
  obtain ⟨v3, e_v3, h⟩ := ob h
  have e_v3t := tab_get (f := fun n => PV.lit (.int .u64 n)) e_v3
  simp only [pow10L, List.map_cons, List.map_nil, List.length_cons, List.length_nil, Nat.reduceAdd] at e_v3t
  obtain ⟨e_v3a, e_v3b, e_v3d⟩ := e_v3t
  obtain ⟨v4, e_v4, h⟩ := ob h
  have e_v4c : call Tryd.prog T H (.fn 123) [.p (bv (decide (v3 ≤ a0)))] [] = some (.ret (.p (iv v4)), []) := spec123 (decide (v3 ≤ a0)) v4 e_v4
  simp only [go_sem, e_v1c, e_v2c, e_v3a, e_v3b, e_v3d, Nat.mul_one, e_v4c]
  injection h with h; subst h
  exact Sat.ok hQ

def internal_strconv_formatBase10_mx (n : Nat) (a0 : List Int) (l0 : Nat) (a1 : Int) : Option (List Int) :=
  whileL n (a1, (l0 : Int), a0) (fun k1 (s1 : Int × Int × (List Int)) n1 =>
    if 8 ≤ s1.2.1 then
      (idx ([48, 48, 48, 49, 48, 50, 48, 51, 48, 52, 48, 53, 48, 54, 48, 55, 48, 56, 48, 57, 49, 48, 49, 49, 49, 50, 49, 51, 49, 52, 49, 53, 49, 54, 49, 55, 49, 56, 49, 57, 50, 48, 50, 49, 50, 50, 50, 51, 50, 52, 50, 53, 50, 54, 50, 55, 50, 56, 50, 57, 51, 48, 51, 49, 51, 50, 51, 51, 51, 52, 51, 53, 51, 54, 51, 55, 51, 56, 51, 57, 52, 48, 52, 49, 52, 50, 52, 51, 52, 52, 52, 53, 52, 54, 52, 55, 52, 56, 52, 57, 53, 48, 53, 49, 53, 50, 53, 51, 53, 52, 53, 53, 53, 54, 53, 55, 53, 56, 53, 57, 54, 48, 54, 49, 54, 50, 54, 51, 54, 52, 54, 53, 54, 54, 54, 55, 54, 56, 54, 57, 55, 48, 55, 49, 55, 50, 55, 51, 55, 52, 55, 53, 55, 54, 55, 55, 55, 56, 55, 57, 56, 48, 56, 49, 56, 50, 56, 51, 56, 52, 56, 53, 56, 54, 56, 55, 56, 56, 56, 57, 57, 48, 57, 49, 57, 50, 57, 51, 57, 52, 57, 53, 57, 54, 57, 55, 57, 56, 57, 57] : Str) (IntKind.u32.wrap ((IntKind.u32.wrap ((Int.tmod (Int.tmod (IntKind.u32.wrap (Int.tmod s1.1 100000000)) 10000) 100) * 2)) + 1))).bind fun v21 =>
      (idx ([48, 48, 48, 49, 48, 50, 48, 51, 48, 52, 48, 53, 48, 54, 48, 55, 48, 56, 48, 57, 49, 48, 49, 49, 49, 50, 49, 51, 49, 52, 49, 53, 49, 54, 49, 55, 49, 56, 49, 57, 50, 48, 50, 49, 50, 50, 50, 51, 50, 52, 50, 53, 50, 54, 50, 55, 50, 56, 50, 57, 51, 48, 51, 49, 51, 50, 51, 51, 51, 52, 51, 53, 51, 54, 51, 55, 51, 56, 51, 57, 52, 48, 52, 49, 52, 50, 52, 51, 52, 52, 52, 53, 52, 54, 52, 55, 52, 56, 52, 57, 53, 48, 53, 49, 53, 50, 53, 51, 53, 52, 53, 53, 53, 54, 53, 55, 53, 56, 53, 57, 54, 48, 54, 49, 54, 50, 54, 51, 54, 52, 54, 53, 54, 54, 54, 55, 54, 56, 54, 57, 55, 48, 55, 49, 55, 50, 55, 51, 55, 52, 55, 53, 55, 54, 55, 55, 55, 56, 55, 57, 56, 48, 56, 49, 56, 50, 56, 51, 56, 52, 56, 53, 56, 54, 56, 55, 56, 56, 56, 57, 57, 48, 57, 49, 57, 50, 57, 51, 57, 52, 57, 53, 57, 54, 57, 55, 57, 56, 57, 57] : Str) (IntKind.u32.wrap ((Int.tmod (Int.tmod (IntKind.u32.wrap (Int.tmod s1.1 100000000)) 10000) 100) * 2))).bind fun v22 =>
      (idxM l0 s1.2.2 (w64 (s1.2.1 - 1))).bind fun v23 =>
      (idxM l0 (List.set s1.2.2 ((w64 (s1.2.1 - 1)).toNat) (v21.toNat : Int)) (w64 (s1.2.1 - 2))).bind fun v24 =>
      (idx ([48, 48, 48, 49, 48, 50, 48, 51, 48, 52, 48, 53, 48, 54, 48, 55, 48, 56, 48, 57, 49, 48, 49, 49, 49, 50, 49, 51, 49, 52, 49, 53, 49, 54, 49, 55, 49, 56, 49, 57, 50, 48, 50, 49, 50, 50, 50, 51, 50, 52, 50, 53, 50, 54, 50, 55, 50, 56, 50, 57, 51, 48, 51, 49, 51, 50, 51, 51, 51, 52, 51, 53, 51, 54, 51, 55, 51, 56, 51, 57, 52, 48, 52, 49, 52, 50, 52, 51, 52, 52, 52, 53, 52, 54, 52, 55, 52, 56, 52, 57, 53, 48, 53, 49, 53, 50, 53, 51, 53, 52, 53, 53, 53, 54, 53, 55, 53, 56, 53, 57, 54, 48, 54, 49, 54, 50, 54, 51, 54, 52, 54, 53, 54, 54, 54, 55, 54, 56, 54, 57, 55, 48, 55, 49, 55, 50, 55, 51, 55, 52, 55, 53, 55, 54, 55, 55, 55, 56, 55, 57, 56, 48, 56, 49, 56, 50, 56, 51, 56, 52, 56, 53, 56, 54, 56, 55, 56, 56, 56, 57, 57, 48, 57, 49, 57, 50, 57, 51, 57, 52, 57, 53, 57, 54, 57, 55, 57, 56, 57, 57] : Str) (IntKind.u32.wrap ((IntKind.u32.wrap ((IntKind.u32.wrap (Int.tdiv (Int.tmod (IntKind.u32.wrap (Int.tmod s1.1 100000000)) 10000) 100)) * 2)) + 1))).bind fun v25 =>
      (idx ([48, 48, 48, 49, 48, 50, 48, 51, 48, 52, 48, 53, 48, 54, 48, 55, 48, 56, 48, 57, 49, 48, 49, 49, 49, 50, 49, 51, 49, 52, 49, 53, 49, 54, 49, 55, 49, 56, 49, 57, 50, 48, 50, 49, 50, 50, 50, 51, 50, 52, 50, 53, 50, 54, 50, 55, 50, 56, 50, 57, 51, 48, 51, 49, 51, 50, 51, 51, 51, 52, 51, 53, 51, 54, 51, 55, 51, 56, 51, 57, 52, 48, 52, 49, 52, 50, 52, 51, 52, 52, 52, 53, 52, 54, 52, 55, 52, 56, 52, 57, 53, 48, 53, 49, 53, 50, 53, 51, 53, 52, 53, 53, 53, 54, 53, 55, 53, 56, 53, 57, 54, 48, 54, 49, 54, 50, 54, 51, 54, 52, 54, 53, 54, 54, 54, 55, 54, 56, 54, 57, 55, 48, 55, 49, 55, 50, 55, 51, 55, 52, 55, 53, 55, 54, 55, 55, 55, 56, 55, 57, 56, 48, 56, 49, 56, 50, 56, 51, 56, 52, 56, 53, 56, 54, 56, 55, 56, 56, 56, 57, 57, 48, 57, 49, 57, 50, 57, 51, 57, 52, 57, 53, 57, 54, 57, 55, 57, 56, 57, 57] : Str) (IntKind.u32.wrap ((IntKind.u32.wrap (Int.tdiv (Int.tmod (IntKind.u32.wrap (Int.tmod s1.1 100000000)) 10000) 100)) * 2))).bind fun v26 =>
      (idxM l0 (List.set (List.set s1.2.2 ((w64 (s1.2.1 - 1)).toNat) (v21.toNat : Int)) ((w64 (s1.2.1 - 2)).toNat) (v22.toNat : Int)) (w64 (s1.2.1 - 3))).bind fun v27 =>
      (idxM l0 (List.set (List.set (List.set s1.2.2 ((w64 (s1.2.1 - 1)).toNat) (v21.toNat : Int)) ((w64 (s1.2.1 - 2)).toNat) (v22.toNat : Int)) ((w64 (s1.2.1 - 3)).toNat) (v25.toNat : Int)) (w64 (s1.2.1 - 4))).bind fun v28 =>
      (idx ([48, 48, 48, 49, 48, 50, 48, 51, 48, 52, 48, 53, 48, 54, 48, 55, 48, 56, 48, 57, 49, 48, 49, 49, 49, 50, 49, 51, 49, 52, 49, 53, 49, 54, 49, 55, 49, 56, 49, 57, 50, 48, 50, 49, 50, 50, 50, 51, 50, 52, 50, 53, 50, 54, 50, 55, 50, 56, 50, 57, 51, 48, 51, 49, 51, 50, 51, 51, 51, 52, 51, 53, 51, 54, 51, 55, 51, 56, 51, 57, 52, 48, 52, 49, 52, 50, 52, 51, 52, 52, 52, 53, 52, 54, 52, 55, 52, 56, 52, 57, 53, 48, 53, 49, 53, 50, 53, 51, 53, 52, 53, 53, 53, 54, 53, 55, 53, 56, 53, 57, 54, 48, 54, 49, 54, 50, 54, 51, 54, 52, 54, 53, 54, 54, 54, 55, 54, 56, 54, 57, 55, 48, 55, 49, 55, 50, 55, 51, 55, 52, 55, 53, 55, 54, 55, 55, 55, 56, 55, 57, 56, 48, 56, 49, 56, 50, 56, 51, 56, 52, 56, 53, 56, 54, 56, 55, 56, 56, 56, 57, 57, 48, 57, 49, 57, 50, 57, 51, 57, 52, 57, 53, 57, 54, 57, 55, 57, 56, 57, 57] : Str) (IntKind.u32.wrap ((IntKind.u32.wrap ((Int.tmod (IntKind.u32.wrap (Int.tdiv (IntKind.u32.wrap (Int.tmod s1.1 100000000)) 10000)) 100) * 2)) + 1))).bind fun v29 =>
      (idx ([48, 48, 48, 49, 48, 50, 48, 51, 48, 52, 48, 53, 48, 54, 48, 55, 48, 56, 48, 57, 49, 48, 49, 49, 49, 50, 49, 51, 49, 52, 49, 53, 49, 54, 49, 55, 49, 56, 49, 57, 50, 48, 50, 49, 50, 50, 50, 51, 50, 52, 50, 53, 50, 54, 50, 55, 50, 56, 50, 57, 51, 48, 51, 49, 51, 50, 51, 51, 51, 52, 51, 53, 51, 54, 51, 55, 51, 56, 51, 57, 52, 48, 52, 49, 52, 50, 52, 51, 52, 52, 52, 53, 52, 54, 52, 55, 52, 56, 52, 57, 53, 48, 53, 49, 53, 50, 53, 51, 53, 52, 53, 53, 53, 54, 53, 55, 53, 56, 53, 57, 54, 48, 54, 49, 54, 50, 54, 51, 54, 52, 54, 53, 54, 54, 54, 55, 54, 56, 54, 57, 55, 48, 55, 49, 55, 50, 55, 51, 55, 52, 55, 53, 55, 54, 55, 55, 55, 56, 55, 57, 56, 48, 56, 49, 56, 50, 56, 51, 56, 52, 56, 53, 56, 54, 56, 55, 56, 56, 56, 57, 57, 48, 57, 49, 57, 50, 57, 51, 57, 52, 57, 53, 57, 54, 57, 55, 57, 56, 57, 57] : Str) (IntKind.u32.wrap ((Int.tmod (IntKind.u32.wrap (Int.tdiv (IntKind.u32.wrap (Int.tmod s1.1 100000000)) 10000)) 100) * 2))).bind fun v30 =>
      (idxM l0 (List.set (List.set (List.set (List.set s1.2.2 ((w64 (s1.2.1 - 1)).toNat) (v21.toNat : Int)) ((w64 (s1.2.1 - 2)).toNat) (v22.toNat : Int)) ((w64 (s1.2.1 - 3)).toNat) (v25.toNat : Int)) ((w64 (s1.2.1 - 4)).toNat) (v26.toNat : Int)) (w64 (s1.2.1 - 5))).bind fun v31 =>
      (idxM l0 (List.set (List.set (List.set (List.set (List.set s1.2.2 ((w64 (s1.2.1 - 1)).toNat) (v21.toNat : Int)) ((w64 (s1.2.1 - 2)).toNat) (v22.toNat : Int)) ((w64 (s1.2.1 - 3)).toNat) (v25.toNat : Int)) ((w64 (s1.2.1 - 4)).toNat) (v26.toNat : Int)) ((w64 (s1.2.1 - 5)).toNat) (v29.toNat : Int)) (w64 (s1.2.1 - 6))).bind fun v32 =>
      (idx ([48, 48, 48, 49, 48, 50, 48, 51, 48, 52, 48, 53, 48, 54, 48, 55, 48, 56, 48, 57, 49, 48, 49, 49, 49, 50, 49, 51, 49, 52, 49, 53, 49, 54, 49, 55, 49, 56, 49, 57, 50, 48, 50, 49, 50, 50, 50, 51, 50, 52, 50, 53, 50, 54, 50, 55, 50, 56, 50, 57, 51, 48, 51, 49, 51, 50, 51, 51, 51, 52, 51, 53, 51, 54, 51, 55, 51, 56, 51, 57, 52, 48, 52, 49, 52, 50, 52, 51, 52, 52, 52, 53, 52, 54, 52, 55, 52, 56, 52, 57, 53, 48, 53, 49, 53, 50, 53, 51, 53, 52, 53, 53, 53, 54, 53, 55, 53, 56, 53, 57, 54, 48, 54, 49, 54, 50, 54, 51, 54, 52, 54, 53, 54, 54, 54, 55, 54, 56, 54, 57, 55, 48, 55, 49, 55, 50, 55, 51, 55, 52, 55, 53, 55, 54, 55, 55, 55, 56, 55, 57, 56, 48, 56, 49, 56, 50, 56, 51, 56, 52, 56, 53, 56, 54, 56, 55, 56, 56, 56, 57, 57, 48, 57, 49, 57, 50, 57, 51, 57, 52, 57, 53, 57, 54, 57, 55, 57, 56, 57, 57] : Str) (IntKind.u32.wrap ((IntKind.u32.wrap ((IntKind.u32.wrap (Int.tdiv (IntKind.u32.wrap (Int.tdiv (IntKind.u32.wrap (Int.tmod s1.1 100000000)) 10000)) 100)) * 2)) + 1))).bind fun v33 =>
      (idx ([48, 48, 48, 49, 48, 50, 48, 51, 48, 52, 48, 53, 48, 54, 48, 55, 48, 56, 48, 57, 49, 48, 49, 49, 49, 50, 49, 51, 49, 52, 49, 53, 49, 54, 49, 55, 49, 56, 49, 57, 50, 48, 50, 49, 50, 50, 50, 51, 50, 52, 50, 53, 50, 54, 50, 55, 50, 56, 50, 57, 51, 48, 51, 49, 51, 50, 51, 51, 51, 52, 51, 53, 51, 54, 51, 55, 51, 56, 51, 57, 52, 48, 52, 49, 52, 50, 52, 51, 52, 52, 52, 53, 52, 54, 52, 55, 52, 56, 52, 57, 53, 48, 53, 49, 53, 50, 53, 51, 53, 52, 53, 53, 53, 54, 53, 55, 53, 56, 53, 57, 54, 48, 54, 49, 54, 50, 54, 51, 54, 52, 54, 53, 54, 54, 54, 55, 54, 56, 54, 57, 55, 48, 55, 49, 55, 50, 55, 51, 55, 52, 55, 53, 55, 54, 55, 55, 55, 56, 55, 57, 56, 48, 56, 49, 56, 50, 56, 51, 56, 52, 56, 53, 56, 54, 56, 55, 56, 56, 56, 57, 57, 48, 57, 49, 57, 50, 57, 51, 57, 52, 57, 53, 57, 54, 57, 55, 57, 56, 57, 57] : Str) (IntKind.u32.wrap ((IntKind.u32.wrap (Int.tdiv (IntKind.u32.wrap (Int.tdiv (IntKind.u32.wrap (Int.tmod s1.1 100000000)) 10000)) 100)) * 2))).bind fun v34 =>
      (idxM l0 (List.set (List.set (List.set (List.set (List.set (List.set s1.2.2 ((w64 (s1.2.1 - 1)).toNat) (v21.toNat : Int)) ((w64 (s1.2.1 - 2)).toNat) (v22.toNat : Int)) ((w64 (s1.2.1 - 3)).toNat) (v25.toNat : Int)) ((w64 (s1.2.1 - 4)).toNat) (v26.toNat : Int)) ((w64 (s1.2.1 - 5)).toNat) (v29.toNat : Int)) ((w64 (s1.2.1 - 6)).toNat) (v30.toNat : Int)) (w64 (s1.2.1 - 7))).bind fun v35 =>
      (idxM l0 (List.set (List.set (List.set (List.set (List.set (List.set (List.set s1.2.2 ((w64 (s1.2.1 - 1)).toNat) (v21.toNat : Int)) ((w64 (s1.2.1 - 2)).toNat) (v22.toNat : Int)) ((w64 (s1.2.1 - 3)).toNat) (v25.toNat : Int)) ((w64 (s1.2.1 - 4)).toNat) (v26.toNat : Int)) ((w64 (s1.2.1 - 5)).toNat) (v29.toNat : Int)) ((w64 (s1.2.1 - 6)).toNat) (v30.toNat : Int)) ((w64 (s1.2.1 - 7)).toNat) (v33.toNat : Int)) (w64 (s1.2.1 - 8))).bind fun v36 =>
      n1 (IntKind.u64.wrap (Int.tdiv s1.1 100000000), w64 (s1.2.1 - 8), (List.set (List.set (List.set (List.set (List.set (List.set (List.set (List.set s1.2.2 ((w64 (s1.2.1 - 1)).toNat) (v21.toNat : Int)) ((w64 (s1.2.1 - 2)).toNat) (v22.toNat : Int)) ((w64 (s1.2.1 - 3)).toNat) (v25.toNat : Int)) ((w64 (s1.2.1 - 4)).toNat) (v26.toNat : Int)) ((w64 (s1.2.1 - 5)).toNat) (v29.toNat : Int)) ((w64 (s1.2.1 - 6)).toNat) (v30.toNat : Int)) ((w64 (s1.2.1 - 7)).toNat) (v33.toNat : Int)) ((w64 (s1.2.1 - 8)).toNat) (v34.toNat : Int)))
    else
      k1 (s1.1, s1.2.1, s1.2.2)) fun s1 =>
  if 4 ≤ s1.2.1 then
    (idx ([48, 48, 48, 49, 48, 50, 48, 51, 48, 52, 48, 53, 48, 54, 48, 55, 48, 56, 48, 57, 49, 48, 49, 49, 49, 50, 49, 51, 49, 52, 49, 53, 49, 54, 49, 55, 49, 56, 49, 57, 50, 48, 50, 49, 50, 50, 50, 51, 50, 52, 50, 53, 50, 54, 50, 55, 50, 56, 50, 57, 51, 48, 51, 49, 51, 50, 51, 51, 51, 52, 51, 53, 51, 54, 51, 55, 51, 56, 51, 57, 52, 48, 52, 49, 52, 50, 52, 51, 52, 52, 52, 53, 52, 54, 52, 55, 52, 56, 52, 57, 53, 48, 53, 49, 53, 50, 53, 51, 53, 52, 53, 53, 53, 54, 53, 55, 53, 56, 53, 57, 54, 48, 54, 49, 54, 50, 54, 51, 54, 52, 54, 53, 54, 54, 54, 55, 54, 56, 54, 57, 55, 48, 55, 49, 55, 50, 55, 51, 55, 52, 55, 53, 55, 54, 55, 55, 55, 56, 55, 57, 56, 48, 56, 49, 56, 50, 56, 51, 56, 52, 56, 53, 56, 54, 56, 55, 56, 56, 56, 57, 57, 48, 57, 49, 57, 50, 57, 51, 57, 52, 57, 53, 57, 54, 57, 55, 57, 56, 57, 57] : Str) (IntKind.u32.wrap ((IntKind.u32.wrap ((Int.tmod (Int.tmod (IntKind.u32.wrap s1.1) 10000) 100) * 2)) + 1))).bind fun v1 =>
    (idx ([48, 48, 48, 49, 48, 50, 48, 51, 48, 52, 48, 53, 48, 54, 48, 55, 48, 56, 48, 57, 49, 48, 49, 49, 49, 50, 49, 51, 49, 52, 49, 53, 49, 54, 49, 55, 49, 56, 49, 57, 50, 48, 50, 49, 50, 50, 50, 51, 50, 52, 50, 53, 50, 54, 50, 55, 50, 56, 50, 57, 51, 48, 51, 49, 51, 50, 51, 51, 51, 52, 51, 53, 51, 54, 51, 55, 51, 56, 51, 57, 52, 48, 52, 49, 52, 50, 52, 51, 52, 52, 52, 53, 52, 54, 52, 55, 52, 56, 52, 57, 53, 48, 53, 49, 53, 50, 53, 51, 53, 52, 53, 53, 53, 54, 53, 55, 53, 56, 53, 57, 54, 48, 54, 49, 54, 50, 54, 51, 54, 52, 54, 53, 54, 54, 54, 55, 54, 56, 54, 57, 55, 48, 55, 49, 55, 50, 55, 51, 55, 52, 55, 53, 55, 54, 55, 55, 55, 56, 55, 57, 56, 48, 56, 49, 56, 50, 56, 51, 56, 52, 56, 53, 56, 54, 56, 55, 56, 56, 56, 57, 57, 48, 57, 49, 57, 50, 57, 51, 57, 52, 57, 53, 57, 54, 57, 55, 57, 56, 57, 57] : Str) (IntKind.u32.wrap ((Int.tmod (Int.tmod (IntKind.u32.wrap s1.1) 10000) 100) * 2))).bind fun v2 =>
    (idxM l0 s1.2.2 (w64 (s1.2.1 - 1))).bind fun v3 =>
    (idxM l0 (List.set s1.2.2 ((w64 (s1.2.1 - 1)).toNat) (v1.toNat : Int)) (w64 (s1.2.1 - 2))).bind fun v4 =>
    (idx ([48, 48, 48, 49, 48, 50, 48, 51, 48, 52, 48, 53, 48, 54, 48, 55, 48, 56, 48, 57, 49, 48, 49, 49, 49, 50, 49, 51, 49, 52, 49, 53, 49, 54, 49, 55, 49, 56, 49, 57, 50, 48, 50, 49, 50, 50, 50, 51, 50, 52, 50, 53, 50, 54, 50, 55, 50, 56, 50, 57, 51, 48, 51, 49, 51, 50, 51, 51, 51, 52, 51, 53, 51, 54, 51, 55, 51, 56, 51, 57, 52, 48, 52, 49, 52, 50, 52, 51, 52, 52, 52, 53, 52, 54, 52, 55, 52, 56, 52, 57, 53, 48, 53, 49, 53, 50, 53, 51, 53, 52, 53, 53, 53, 54, 53, 55, 53, 56, 53, 57, 54, 48, 54, 49, 54, 50, 54, 51, 54, 52, 54, 53, 54, 54, 54, 55, 54, 56, 54, 57, 55, 48, 55, 49, 55, 50, 55, 51, 55, 52, 55, 53, 55, 54, 55, 55, 55, 56, 55, 57, 56, 48, 56, 49, 56, 50, 56, 51, 56, 52, 56, 53, 56, 54, 56, 55, 56, 56, 56, 57, 57, 48, 57, 49, 57, 50, 57, 51, 57, 52, 57, 53, 57, 54, 57, 55, 57, 56, 57, 57] : Str) (IntKind.u32.wrap ((IntKind.u32.wrap ((IntKind.u32.wrap (Int.tdiv (Int.tmod (IntKind.u32.wrap s1.1) 10000) 100)) * 2)) + 1))).bind fun v5 =>
    (idx ([48, 48, 48, 49, 48, 50, 48, 51, 48, 52, 48, 53, 48, 54, 48, 55, 48, 56, 48, 57, 49, 48, 49, 49, 49, 50, 49, 51, 49, 52, 49, 53, 49, 54, 49, 55, 49, 56, 49, 57, 50, 48, 50, 49, 50, 50, 50, 51, 50, 52, 50, 53, 50, 54, 50, 55, 50, 56, 50, 57, 51, 48, 51, 49, 51, 50, 51, 51, 51, 52, 51, 53, 51, 54, 51, 55, 51, 56, 51, 57, 52, 48, 52, 49, 52, 50, 52, 51, 52, 52, 52, 53, 52, 54, 52, 55, 52, 56, 52, 57, 53, 48, 53, 49, 53, 50, 53, 51, 53, 52, 53, 53, 53, 54, 53, 55, 53, 56, 53, 57, 54, 48, 54, 49, 54, 50, 54, 51, 54, 52, 54, 53, 54, 54, 54, 55, 54, 56, 54, 57, 55, 48, 55, 49, 55, 50, 55, 51, 55, 52, 55, 53, 55, 54, 55, 55, 55, 56, 55, 57, 56, 48, 56, 49, 56, 50, 56, 51, 56, 52, 56, 53, 56, 54, 56, 55, 56, 56, 56, 57, 57, 48, 57, 49, 57, 50, 57, 51, 57, 52, 57, 53, 57, 54, 57, 55, 57, 56, 57, 57] : Str) (IntKind.u32.wrap ((IntKind.u32.wrap (Int.tdiv (Int.tmod (IntKind.u32.wrap s1.1) 10000) 100)) * 2))).bind fun v6 =>
    (idxM l0 (List.set (List.set s1.2.2 ((w64 (s1.2.1 - 1)).toNat) (v1.toNat : Int)) ((w64 (s1.2.1 - 2)).toNat) (v2.toNat : Int)) (w64 (s1.2.1 - 3))).bind fun v7 =>
    (idxM l0 (List.set (List.set (List.set s1.2.2 ((w64 (s1.2.1 - 1)).toNat) (v1.toNat : Int)) ((w64 (s1.2.1 - 2)).toNat) (v2.toNat : Int)) ((w64 (s1.2.1 - 3)).toNat) (v5.toNat : Int)) (w64 (s1.2.1 - 4))).bind fun v8 =>
    if 2 ≤ (w64 (s1.2.1 - 4)) then
      (idx ([48, 48, 48, 49, 48, 50, 48, 51, 48, 52, 48, 53, 48, 54, 48, 55, 48, 56, 48, 57, 49, 48, 49, 49, 49, 50, 49, 51, 49, 52, 49, 53, 49, 54, 49, 55, 49, 56, 49, 57, 50, 48, 50, 49, 50, 50, 50, 51, 50, 52, 50, 53, 50, 54, 50, 55, 50, 56, 50, 57, 51, 48, 51, 49, 51, 50, 51, 51, 51, 52, 51, 53, 51, 54, 51, 55, 51, 56, 51, 57, 52, 48, 52, 49, 52, 50, 52, 51, 52, 52, 52, 53, 52, 54, 52, 55, 52, 56, 52, 57, 53, 48, 53, 49, 53, 50, 53, 51, 53, 52, 53, 53, 53, 54, 53, 55, 53, 56, 53, 57, 54, 48, 54, 49, 54, 50, 54, 51, 54, 52, 54, 53, 54, 54, 54, 55, 54, 56, 54, 57, 55, 48, 55, 49, 55, 50, 55, 51, 55, 52, 55, 53, 55, 54, 55, 55, 55, 56, 55, 57, 56, 48, 56, 49, 56, 50, 56, 51, 56, 52, 56, 53, 56, 54, 56, 55, 56, 56, 56, 57, 57, 48, 57, 49, 57, 50, 57, 51, 57, 52, 57, 53, 57, 54, 57, 55, 57, 56, 57, 57] : Str) (IntKind.u32.wrap ((IntKind.u32.wrap ((Int.tmod (IntKind.u32.wrap (Int.tdiv (IntKind.u32.wrap s1.1) 10000)) 100) * 2)) + 1))).bind fun v9 =>
      (idx ([48, 48, 48, 49, 48, 50, 48, 51, 48, 52, 48, 53, 48, 54, 48, 55, 48, 56, 48, 57, 49, 48, 49, 49, 49, 50, 49, 51, 49, 52, 49, 53, 49, 54, 49, 55, 49, 56, 49, 57, 50, 48, 50, 49, 50, 50, 50, 51, 50, 52, 50, 53, 50, 54, 50, 55, 50, 56, 50, 57, 51, 48, 51, 49, 51, 50, 51, 51, 51, 52, 51, 53, 51, 54, 51, 55, 51, 56, 51, 57, 52, 48, 52, 49, 52, 50, 52, 51, 52, 52, 52, 53, 52, 54, 52, 55, 52, 56, 52, 57, 53, 48, 53, 49, 53, 50, 53, 51, 53, 52, 53, 53, 53, 54, 53, 55, 53, 56, 53, 57, 54, 48, 54, 49, 54, 50, 54, 51, 54, 52, 54, 53, 54, 54, 54, 55, 54, 56, 54, 57, 55, 48, 55, 49, 55, 50, 55, 51, 55, 52, 55, 53, 55, 54, 55, 55, 55, 56, 55, 57, 56, 48, 56, 49, 56, 50, 56, 51, 56, 52, 56, 53, 56, 54, 56, 55, 56, 56, 56, 57, 57, 48, 57, 49, 57, 50, 57, 51, 57, 52, 57, 53, 57, 54, 57, 55, 57, 56, 57, 57] : Str) (IntKind.u32.wrap ((Int.tmod (IntKind.u32.wrap (Int.tdiv (IntKind.u32.wrap s1.1) 10000)) 100) * 2))).bind fun v10 =>
      (idxM l0 (List.set (List.set (List.set (List.set s1.2.2 ((w64 (s1.2.1 - 1)).toNat) (v1.toNat : Int)) ((w64 (s1.2.1 - 2)).toNat) (v2.toNat : Int)) ((w64 (s1.2.1 - 3)).toNat) (v5.toNat : Int)) ((w64 (s1.2.1 - 4)).toNat) (v6.toNat : Int)) (w64 ((w64 (s1.2.1 - 4)) - 1))).bind fun v11 =>
      (idxM l0 (List.set (List.set (List.set (List.set (List.set s1.2.2 ((w64 (s1.2.1 - 1)).toNat) (v1.toNat : Int)) ((w64 (s1.2.1 - 2)).toNat) (v2.toNat : Int)) ((w64 (s1.2.1 - 3)).toNat) (v5.toNat : Int)) ((w64 (s1.2.1 - 4)).toNat) (v6.toNat : Int)) ((w64 ((w64 (s1.2.1 - 4)) - 1)).toNat) (v9.toNat : Int)) (w64 ((w64 (s1.2.1 - 4)) - 2))).bind fun v12 =>
      if 0 < (w64 ((w64 (s1.2.1 - 4)) - 2)) then
        (idxM l0 (List.set (List.set (List.set (List.set (List.set (List.set s1.2.2 ((w64 (s1.2.1 - 1)).toNat) (v1.toNat : Int)) ((w64 (s1.2.1 - 2)).toNat) (v2.toNat : Int)) ((w64 (s1.2.1 - 3)).toNat) (v5.toNat : Int)) ((w64 (s1.2.1 - 4)).toNat) (v6.toNat : Int)) ((w64 ((w64 (s1.2.1 - 4)) - 1)).toNat) (v9.toNat : Int)) ((w64 ((w64 (s1.2.1 - 4)) - 2)).toNat) (v10.toNat : Int)) 0).bind fun v13 =>
        some (List.set (List.set (List.set (List.set (List.set (List.set (List.set s1.2.2 ((w64 (s1.2.1 - 1)).toNat) (v1.toNat : Int)) ((w64 (s1.2.1 - 2)).toNat) (v2.toNat : Int)) ((w64 (s1.2.1 - 3)).toNat) (v5.toNat : Int)) ((w64 (s1.2.1 - 4)).toNat) (v6.toNat : Int)) ((w64 ((w64 (s1.2.1 - 4)) - 1)).toNat) (v9.toNat : Int)) ((w64 ((w64 (s1.2.1 - 4)) - 2)).toNat) (v10.toNat : Int)) 0 (IntKind.u8.wrap (IntKind.u32.wrap (48 + (IntKind.u32.wrap (Int.tdiv (IntKind.u32.wrap (Int.tdiv (IntKind.u32.wrap s1.1) 10000)) 100))))))
      else
        some (List.set (List.set (List.set (List.set (List.set (List.set s1.2.2 ((w64 (s1.2.1 - 1)).toNat) (v1.toNat : Int)) ((w64 (s1.2.1 - 2)).toNat) (v2.toNat : Int)) ((w64 (s1.2.1 - 3)).toNat) (v5.toNat : Int)) ((w64 (s1.2.1 - 4)).toNat) (v6.toNat : Int)) ((w64 ((w64 (s1.2.1 - 4)) - 1)).toNat) (v9.toNat : Int)) ((w64 ((w64 (s1.2.1 - 4)) - 2)).toNat) (v10.toNat : Int))
    else
      if 0 < (w64 (s1.2.1 - 4)) then
        (idxM l0 (List.set (List.set (List.set (List.set s1.2.2 ((w64 (s1.2.1 - 1)).toNat) (v1.toNat : Int)) ((w64 (s1.2.1 - 2)).toNat) (v2.toNat : Int)) ((w64 (s1.2.1 - 3)).toNat) (v5.toNat : Int)) ((w64 (s1.2.1 - 4)).toNat) (v6.toNat : Int)) 0).bind fun v14 =>
        some (List.set (List.set (List.set (List.set (List.set s1.2.2 ((w64 (s1.2.1 - 1)).toNat) (v1.toNat : Int)) ((w64 (s1.2.1 - 2)).toNat) (v2.toNat : Int)) ((w64 (s1.2.1 - 3)).toNat) (v5.toNat : Int)) ((w64 (s1.2.1 - 4)).toNat) (v6.toNat : Int)) 0 (IntKind.u8.wrap (IntKind.u32.wrap (48 + (IntKind.u32.wrap (Int.tdiv (IntKind.u32.wrap s1.1) 10000))))))
      else
        some (List.set (List.set (List.set (List.set s1.2.2 ((w64 (s1.2.1 - 1)).toNat) (v1.toNat : Int)) ((w64 (s1.2.1 - 2)).toNat) (v2.toNat : Int)) ((w64 (s1.2.1 - 3)).toNat) (v5.toNat : Int)) ((w64 (s1.2.1 - 4)).toNat) (v6.toNat : Int))
  else
    if 2 ≤ s1.2.1 then
      (idx ([48, 48, 48, 49, 48, 50, 48, 51, 48, 52, 48, 53, 48, 54, 48, 55, 48, 56, 48, 57, 49, 48, 49, 49, 49, 50, 49, 51, 49, 52, 49, 53, 49, 54, 49, 55, 49, 56, 49, 57, 50, 48, 50, 49, 50, 50, 50, 51, 50, 52, 50, 53, 50, 54, 50, 55, 50, 56, 50, 57, 51, 48, 51, 49, 51, 50, 51, 51, 51, 52, 51, 53, 51, 54, 51, 55, 51, 56, 51, 57, 52, 48, 52, 49, 52, 50, 52, 51, 52, 52, 52, 53, 52, 54, 52, 55, 52, 56, 52, 57, 53, 48, 53, 49, 53, 50, 53, 51, 53, 52, 53, 53, 53, 54, 53, 55, 53, 56, 53, 57, 54, 48, 54, 49, 54, 50, 54, 51, 54, 52, 54, 53, 54, 54, 54, 55, 54, 56, 54, 57, 55, 48, 55, 49, 55, 50, 55, 51, 55, 52, 55, 53, 55, 54, 55, 55, 55, 56, 55, 57, 56, 48, 56, 49, 56, 50, 56, 51, 56, 52, 56, 53, 56, 54, 56, 55, 56, 56, 56, 57, 57, 48, 57, 49, 57, 50, 57, 51, 57, 52, 57, 53, 57, 54, 57, 55, 57, 56, 57, 57] : Str) (IntKind.u32.wrap ((IntKind.u32.wrap ((Int.tmod (IntKind.u32.wrap s1.1) 100) * 2)) + 1))).bind fun v15 =>
      (idx ([48, 48, 48, 49, 48, 50, 48, 51, 48, 52, 48, 53, 48, 54, 48, 55, 48, 56, 48, 57, 49, 48, 49, 49, 49, 50, 49, 51, 49, 52, 49, 53, 49, 54, 49, 55, 49, 56, 49, 57, 50, 48, 50, 49, 50, 50, 50, 51, 50, 52, 50, 53, 50, 54, 50, 55, 50, 56, 50, 57, 51, 48, 51, 49, 51, 50, 51, 51, 51, 52, 51, 53, 51, 54, 51, 55, 51, 56, 51, 57, 52, 48, 52, 49, 52, 50, 52, 51, 52, 52, 52, 53, 52, 54, 52, 55, 52, 56, 52, 57, 53, 48, 53, 49, 53, 50, 53, 51, 53, 52, 53, 53, 53, 54, 53, 55, 53, 56, 53, 57, 54, 48, 54, 49, 54, 50, 54, 51, 54, 52, 54, 53, 54, 54, 54, 55, 54, 56, 54, 57, 55, 48, 55, 49, 55, 50, 55, 51, 55, 52, 55, 53, 55, 54, 55, 55, 55, 56, 55, 57, 56, 48, 56, 49, 56, 50, 56, 51, 56, 52, 56, 53, 56, 54, 56, 55, 56, 56, 56, 57, 57, 48, 57, 49, 57, 50, 57, 51, 57, 52, 57, 53, 57, 54, 57, 55, 57, 56, 57, 57] : Str) (IntKind.u32.wrap ((Int.tmod (IntKind.u32.wrap s1.1) 100) * 2))).bind fun v16 =>
      (idxM l0 s1.2.2 (w64 (s1.2.1 - 1))).bind fun v17 =>
      (idxM l0 (List.set s1.2.2 ((w64 (s1.2.1 - 1)).toNat) (v15.toNat : Int)) (w64 (s1.2.1 - 2))).bind fun v18 =>
      if 0 < (w64 (s1.2.1 - 2)) then
        (idxM l0 (List.set (List.set s1.2.2 ((w64 (s1.2.1 - 1)).toNat) (v15.toNat : Int)) ((w64 (s1.2.1 - 2)).toNat) (v16.toNat : Int)) 0).bind fun v19 =>
        some (List.set (List.set (List.set s1.2.2 ((w64 (s1.2.1 - 1)).toNat) (v15.toNat : Int)) ((w64 (s1.2.1 - 2)).toNat) (v16.toNat : Int)) 0 (IntKind.u8.wrap (IntKind.u32.wrap (48 + (IntKind.u32.wrap (Int.tdiv (IntKind.u32.wrap s1.1) 100))))))
      else
        some (List.set (List.set s1.2.2 ((w64 (s1.2.1 - 1)).toNat) (v15.toNat : Int)) ((w64 (s1.2.1 - 2)).toNat) (v16.toNat : Int))
    else
      if 0 < s1.2.1 then
        (idxM l0 s1.2.2 0).bind fun v20 =>
        some (List.set s1.2.2 0 (IntKind.u8.wrap (IntKind.u32.wrap (48 + (IntKind.u32.wrap s1.1)))))
      else
        some s1.2.2
theorem spec109_mx (n : Nat) (σ : List AObj) (p0 : Nat) (g0 : Nat) (hp0 : p0 < σ.length) (a0 : List Int) (l0 : Nat) (a1 : Int) (r : List Int) (h : internal_strconv_formatBase10_mx n a0 l0 a1 = some r) :
    call Tryd.prog T H (.fn 109) [.ms p0 g0 1 0 l0, .p (.lit (.int .u64 a1))] (List.set σ p0 (.arr g0 1 (List.map (rowA rowU8) a0))) = some (.ret (.p (.tup [])), (List.set σ p0 (.arr g0 1 (List.map (rowA rowU8) r)))) := by
  refine Sat.fn fun Q hQ => ?_
  unfold internal_strconv_formatBase10_mx at h
  rw [call109]
  conv => arg 1; arg 7; unfold S03.c109 Tryd.f109; simp only [Option.getD_some]
  simp only [go_sem, hp0, fun k => Nat.lt_add_right k hp0, Nat.not_le_of_lt hp0, fun k => Nat.not_le_of_lt (Nat.lt_add_right k hp0)]
  refine run_whileL (c := L109_0) (live := [0, 1, 4]) (by simp only [go_sem]) (M := fun (s1 : Int × Int × (List Int)) => [(0, .ms p0 g0 1 0 l0), (1, .p (.lit (.int .u64 s1.1))), (4, .p (iv s1.2.1))]) (Z := fun (s1 : Int × Int × (List Int)) => (List.set σ p0 (.arr g0 1 (List.map (rowA rowU8) s1.2.2)))) (N := fun (s1 : Int × Int × (List Int)) => ⟨[(0, .ms p0 g0 1 0 l0), (1, .p (.lit (.int .u64 s1.1))), (4, .p (iv s1.2.1))], (List.set σ p0 (.arr g0 1 (List.map (rowA rowU8) s1.2.2))), [], none, false⟩) h rfl rfl (fun _ => rfl) ?_ ?_
  · intro s1 h
    try dsimp only at h ⊢
    by_cases c1 : 4 ≤ s1.2.1
    · have h := iteT h c1
      obtain ⟨v1, e_v1, h⟩ := ob h
      obtain ⟨e_v1a, e_v1b⟩ := idx_some e_v1
      obtain ⟨v2, e_v2, h⟩ := ob h
      obtain ⟨e_v2a, e_v2b⟩ := idx_some e_v2
      obtain ⟨v3, e_v3, h⟩ := ob h
      obtain ⟨e_v3a, e_v3b, e_v3d⟩ := idxM_some e_v3
      have e_y1 : List.set (List.map (rowA rowU8) s1.2.2) ((w64 (s1.2.1 - 1)).toNat) [.p (.lit (.int .u8 (v1.toNat : Int)))] = List.map (rowA rowU8) (List.set s1.2.2 ((w64 (s1.2.1 - 1)).toNat) (v1.toNat : Int)) := map_set' (by first | rfl | simp only [go_sem, List.map_cons, List.map_nil])
      obtain ⟨v4, e_v4, h⟩ := ob h
      obtain ⟨e_v4a, e_v4b, e_v4d⟩ := idxM_some e_v4
      have e_y2 : List.set (List.map (rowA rowU8) (List.set s1.2.2 ((w64 (s1.2.1 - 1)).toNat) (v1.toNat : Int))) ((w64 (s1.2.1 - 2)).toNat) [.p (.lit (.int .u8 (v2.toNat : Int)))] = List.map (rowA rowU8) (List.set (List.set s1.2.2 ((w64 (s1.2.1 - 1)).toNat) (v1.toNat : Int)) ((w64 (s1.2.1 - 2)).toNat) (v2.toNat : Int)) := map_set' (by first | rfl | simp only [go_sem, List.map_cons, List.map_nil])
      obtain ⟨v5, e_v5, h⟩ := ob h
      obtain ⟨e_v5a, e_v5b⟩ := idx_some e_v5
      obtain ⟨v6, e_v6, h⟩ := ob h
      obtain ⟨e_v6a, e_v6b⟩ := idx_some e_v6
      obtain ⟨v7, e_v7, h⟩ := ob h
      obtain ⟨e_v7a, e_v7b, e_v7d⟩ := idxM_some e_v7
      have e_y3 : List.set (List.map (rowA rowU8) (List.set (List.set s1.2.2 ((w64 (s1.2.1 - 1)).toNat) (v1.toNat : Int)) ((w64 (s1.2.1 - 2)).toNat) (v2.toNat : Int))) ((w64 (s1.2.1 - 3)).toNat) [.p (.lit (.int .u8 (v5.toNat : Int)))] = List.map (rowA rowU8) (List.set (List.set (List.set s1.2.2 ((w64 (s1.2.1 - 1)).toNat) (v1.toNat : Int)) ((w64 (s1.2.1 - 2)).toNat) (v2.toNat : Int)) ((w64 (s1.2.1 - 3)).toNat) (v5.toNat : Int)) := map_set' (by first | rfl | simp only [go_sem, List.map_cons, List.map_nil])
      obtain ⟨v8, e_v8, h⟩ := ob h
      obtain ⟨e_v8a, e_v8b, e_v8d⟩ := idxM_some e_v8
      have e_y4 : List.set (List.map (rowA rowU8) (List.set (List.set (List.set s1.2.2 ((w64 (s1.2.1 - 1)).toNat) (v1.toNat : Int)) ((w64 (s1.2.1 - 2)).toNat) (v2.toNat : Int)) ((w64 (s1.2.1 - 3)).toNat) (v5.toNat : Int))) ((w64 (s1.2.1 - 4)).toNat) [.p (.lit (.int .u8 (v6.toNat : Int)))] = List.map (rowA rowU8) (List.set (List.set (List.set (List.set s1.2.2 ((w64 (s1.2.1 - 1)).toNat) (v1.toNat : Int)) ((w64 (s1.2.1 - 2)).toNat) (v2.toNat : Int)) ((w64 (s1.2.1 - 3)).toNat) (v5.toNat : Int)) ((w64 (s1.2.1 - 4)).toNat) (v6.toNat : Int)) := map_set' (by first | rfl | simp only [go_sem, List.map_cons, List.map_nil])
      by_cases c2 : 2 ≤ (w64 (s1.2.1 - 4))
      · have h := iteT h c2
        obtain ⟨v9, e_v9, h⟩ := ob h
        obtain ⟨e_v9a, e_v9b⟩ := idx_some e_v9
        obtain ⟨v10, e_v10, h⟩ := ob h
        obtain ⟨e_v10a, e_v10b⟩ := idx_some e_v10
        obtain ⟨v11, e_v11, h⟩ := ob h
        obtain ⟨e_v11a, e_v11b, e_v11d⟩ := idxM_some e_v11
        have e_y5 : List.set (List.map (rowA rowU8) (List.set (List.set (List.set (List.set s1.2.2 ((w64 (s1.2.1 - 1)).toNat) (v1.toNat : Int)) ((w64 (s1.2.1 - 2)).toNat) (v2.toNat : Int)) ((w64 (s1.2.1 - 3)).toNat) (v5.toNat : Int)) ((w64 (s1.2.1 - 4)).toNat) (v6.toNat : Int))) ((w64 ((w64 (s1.2.1 - 4)) - 1)).toNat) [.p (.lit (.int .u8 (v9.toNat : Int)))] = List.map (rowA rowU8) (List.set (List.set (List.set (List.set (List.set s1.2.2 ((w64 (s1.2.1 - 1)).toNat) (v1.toNat : Int)) ((w64 (s1.2.1 - 2)).toNat) (v2.toNat : Int)) ((w64 (s1.2.1 - 3)).toNat) (v5.toNat : Int)) ((w64 (s1.2.1 - 4)).toNat) (v6.toNat : Int)) ((w64 ((w64 (s1.2.1 - 4)) - 1)).toNat) (v9.toNat : Int)) := map_set' (by first | rfl | simp only [go_sem, List.map_cons, List.map_nil])
        obtain ⟨v12, e_v12, h⟩ := ob h
        obtain ⟨e_v12a, e_v12b, e_v12d⟩ := idxM_some e_v12
        have e_y6 : List.set (List.map (rowA rowU8) (List.set (List.set (List.set (List.set (List.set s1.2.2 ((w64 (s1.2.1 - 1)).toNat) (v1.toNat : Int)) ((w64 (s1.2.1 - 2)).toNat) (v2.toNat : Int)) ((w64 (s1.2.1 - 3)).toNat) (v5.toNat : Int)) ((w64 (s1.2.1 - 4)).toNat) (v6.toNat : Int)) ((w64 ((w64 (s1.2.1 - 4)) - 1)).toNat) (v9.toNat : Int))) ((w64 ((w64 (s1.2.1 - 4)) - 2)).toNat) [.p (.lit (.int .u8 (v10.toNat : Int)))] = List.map (rowA rowU8) (List.set (List.set (List.set (List.set (List.set (List.set s1.2.2 ((w64 (s1.2.1 - 1)).toNat) (v1.toNat : Int)) ((w64 (s1.2.1 - 2)).toNat) (v2.toNat : Int)) ((w64 (s1.2.1 - 3)).toNat) (v5.toNat : Int)) ((w64 (s1.2.1 - 4)).toNat) (v6.toNat : Int)) ((w64 ((w64 (s1.2.1 - 4)) - 1)).toNat) (v9.toNat : Int)) ((w64 ((w64 (s1.2.1 - 4)) - 2)).toNat) (v10.toNat : Int)) := map_set' (by first | rfl | simp only [go_sem, List.map_cons, List.map_nil])
        by_cases c3 : 0 < (w64 ((w64 (s1.2.1 - 4)) - 2))
        · have h := iteT h c3
          obtain ⟨v13, e_v13, h⟩ := ob h
          obtain ⟨e_v13a, e_v13b, e_v13d⟩ := idxM_some e_v13
          simp only [Int.reduceToNat] at e_v13b
          simp only [Int.reduceToNat] at e_v13d
          have e_y7 : List.set (List.map (rowA rowU8) (List.set (List.set (List.set (List.set (List.set (List.set s1.2.2 ((w64 (s1.2.1 - 1)).toNat) (v1.toNat : Int)) ((w64 (s1.2.1 - 2)).toNat) (v2.toNat : Int)) ((w64 (s1.2.1 - 3)).toNat) (v5.toNat : Int)) ((w64 (s1.2.1 - 4)).toNat) (v6.toNat : Int)) ((w64 ((w64 (s1.2.1 - 4)) - 1)).toNat) (v9.toNat : Int)) ((w64 ((w64 (s1.2.1 - 4)) - 2)).toNat) (v10.toNat : Int))) 0 [.p (.lit (.int .u8 (IntKind.u8.wrap (IntKind.u32.wrap (48 + (IntKind.u32.wrap (Int.tdiv (IntKind.u32.wrap (Int.tdiv (IntKind.u32.wrap s1.1) 10000)) 100)))))))] = List.map (rowA rowU8) (List.set (List.set (List.set (List.set (List.set (List.set (List.set s1.2.2 ((w64 (s1.2.1 - 1)).toNat) (v1.toNat : Int)) ((w64 (s1.2.1 - 2)).toNat) (v2.toNat : Int)) ((w64 (s1.2.1 - 3)).toNat) (v5.toNat : Int)) ((w64 (s1.2.1 - 4)).toNat) (v6.toNat : Int)) ((w64 ((w64 (s1.2.1 - 4)) - 1)).toNat) (v9.toNat : Int)) ((w64 ((w64 (s1.2.1 - 4)) - 2)).toNat) (v10.toNat : Int)) 0 (IntKind.u8.wrap (IntKind.u32.wrap (48 + (IntKind.u32.wrap (Int.tdiv (IntKind.u32.wrap (Int.tdiv (IntKind.u32.wrap s1.1) 10000)) 100)))))) := map_set' (by first | rfl | simp only [go_sem, List.map_cons, List.map_nil])
          simp only [go_sem, c1, List.append_eq, List.cons_append, List.nil_append, e_v1a, e_v1b, e_v2a, e_v2b, e_v3a, e_v3b, e_v3d, e_y1, e_v4a, e_v4b, e_v4d, e_y2, e_v5a, e_v5b, e_v6a, e_v6b, e_v7a, e_v7b, e_v7d, e_y3, e_v8a, e_v8b, e_v8d, e_y4, c2, e_v9a, e_v9b, e_v10a, e_v10b, e_v11a, e_v11b, e_v11d, e_y5, e_v12a, e_v12b, e_v12d, e_y6, c3, e_v13b, e_v13d, e_y7, hp0, fun k => Nat.lt_add_right k hp0, Nat.not_le_of_lt hp0, fun k => Nat.not_le_of_lt (Nat.lt_add_right k hp0)]
          injection h with h; subst h
          exact Sat.ok hQ
        · have h := iteF h c3
          simp only [go_sem, c1, List.append_eq, List.cons_append, List.nil_append, e_v1a, e_v1b, e_v2a, e_v2b, e_v3a, e_v3b, e_v3d, e_y1, e_v4a, e_v4b, e_v4d, e_y2, e_v5a, e_v5b, e_v6a, e_v6b, e_v7a, e_v7b, e_v7d, e_y3, e_v8a, e_v8b, e_v8d, e_y4, c2, e_v9a, e_v9b, e_v10a, e_v10b, e_v11a, e_v11b, e_v11d, e_y5, e_v12a, e_v12b, e_v12d, e_y6, c3, hp0, fun k => Nat.lt_add_right k hp0, Nat.not_le_of_lt hp0, fun k => Nat.not_le_of_lt (Nat.lt_add_right k hp0)]
          injection h with h; subst h
          exact Sat.ok hQ
      · have h := iteF h c2
        by_cases c4 : 0 < (w64 (s1.2.1 - 4))
        · have h := iteT h c4
          obtain ⟨v14, e_v14, h⟩ := ob h
          obtain ⟨e_v14a, e_v14b, e_v14d⟩ := idxM_some e_v14
          simp only [Int.reduceToNat] at e_v14b
          simp only [Int.reduceToNat] at e_v14d
          have e_y8 : List.set (List.map (rowA rowU8) (List.set (List.set (List.set (List.set s1.2.2 ((w64 (s1.2.1 - 1)).toNat) (v1.toNat : Int)) ((w64 (s1.2.1 - 2)).toNat) (v2.toNat : Int)) ((w64 (s1.2.1 - 3)).toNat) (v5.toNat : Int)) ((w64 (s1.2.1 - 4)).toNat) (v6.toNat : Int))) 0 [.p (.lit (.int .u8 (IntKind.u8.wrap (IntKind.u32.wrap (48 + (IntKind.u32.wrap (Int.tdiv (IntKind.u32.wrap s1.1) 10000)))))))] = List.map (rowA rowU8) (List.set (List.set (List.set (List.set (List.set s1.2.2 ((w64 (s1.2.1 - 1)).toNat) (v1.toNat : Int)) ((w64 (s1.2.1 - 2)).toNat) (v2.toNat : Int)) ((w64 (s1.2.1 - 3)).toNat) (v5.toNat : Int)) ((w64 (s1.2.1 - 4)).toNat) (v6.toNat : Int)) 0 (IntKind.u8.wrap (IntKind.u32.wrap (48 + (IntKind.u32.wrap (Int.tdiv (IntKind.u32.wrap s1.1) 10000)))))) := map_set' (by first | rfl | simp only [go_sem, List.map_cons, List.map_nil])
          simp only [go_sem, c1, List.append_eq, List.cons_append, List.nil_append, e_v1a, e_v1b, e_v2a, e_v2b, e_v3a, e_v3b, e_v3d, e_y1, e_v4a, e_v4b, e_v4d, e_y2, e_v5a, e_v5b, e_v6a, e_v6b, e_v7a, e_v7b, e_v7d, e_y3, e_v8a, e_v8b, e_v8d, e_y4, c2, c4, e_v14b, e_v14d, e_y8, hp0, fun k => Nat.lt_add_right k hp0, Nat.not_le_of_lt hp0, fun k => Nat.not_le_of_lt (Nat.lt_add_right k hp0)]
          injection h with h; subst h
          exact Sat.ok hQ
        · have h := iteF h c4
          simp only [go_sem, c1, List.append_eq, List.cons_append, List.nil_append, e_v1a, e_v1b, e_v2a, e_v2b, e_v3a, e_v3b, e_v3d, e_y1, e_v4a, e_v4b, e_v4d, e_y2, e_v5a, e_v5b, e_v6a, e_v6b, e_v7a, e_v7b, e_v7d, e_y3, e_v8a, e_v8b, e_v8d, e_y4, c2, c4, hp0, fun k => Nat.lt_add_right k hp0, Nat.not_le_of_lt hp0, fun k => Nat.not_le_of_lt (Nat.lt_add_right k hp0)]
          injection h with h; subst h
          exact Sat.ok hQ
    · have h := iteF h c1
      by_cases c5 : 2 ≤ s1.2.1
      · have h := iteT h c5
        obtain ⟨v15, e_v15, h⟩ := ob h
        obtain ⟨e_v15a, e_v15b⟩ := idx_some e_v15
        obtain ⟨v16, e_v16, h⟩ := ob h
        obtain ⟨e_v16a, e_v16b⟩ := idx_some e_v16
        obtain ⟨v17, e_v17, h⟩ := ob h
        obtain ⟨e_v17a, e_v17b, e_v17d⟩ := idxM_some e_v17
        have e_y9 : List.set (List.map (rowA rowU8) s1.2.2) ((w64 (s1.2.1 - 1)).toNat) [.p (.lit (.int .u8 (v15.toNat : Int)))] = List.map (rowA rowU8) (List.set s1.2.2 ((w64 (s1.2.1 - 1)).toNat) (v15.toNat : Int)) := map_set' (by first | rfl | simp only [go_sem, List.map_cons, List.map_nil])
        obtain ⟨v18, e_v18, h⟩ := ob h
        obtain ⟨e_v18a, e_v18b, e_v18d⟩ := idxM_some e_v18
        have e_y10 : List.set (List.map (rowA rowU8) (List.set s1.2.2 ((w64 (s1.2.1 - 1)).toNat) (v15.toNat : Int))) ((w64 (s1.2.1 - 2)).toNat) [.p (.lit (.int .u8 (v16.toNat : Int)))] = List.map (rowA rowU8) (List.set (List.set s1.2.2 ((w64 (s1.2.1 - 1)).toNat) (v15.toNat : Int)) ((w64 (s1.2.1 - 2)).toNat) (v16.toNat : Int)) := map_set' (by first | rfl | simp only [go_sem, List.map_cons, List.map_nil])
        by_cases c6 : 0 < (w64 (s1.2.1 - 2))
        · have h := iteT h c6
          obtain ⟨v19, e_v19, h⟩ := ob h
          obtain ⟨e_v19a, e_v19b, e_v19d⟩ := idxM_some e_v19
          simp only [Int.reduceToNat] at e_v19b
          simp only [Int.reduceToNat] at e_v19d
          have e_y11 : List.set (List.map (rowA rowU8) (List.set (List.set s1.2.2 ((w64 (s1.2.1 - 1)).toNat) (v15.toNat : Int)) ((w64 (s1.2.1 - 2)).toNat) (v16.toNat : Int))) 0 [.p (.lit (.int .u8 (IntKind.u8.wrap (IntKind.u32.wrap (48 + (IntKind.u32.wrap (Int.tdiv (IntKind.u32.wrap s1.1) 100)))))))] = List.map (rowA rowU8) (List.set (List.set (List.set s1.2.2 ((w64 (s1.2.1 - 1)).toNat) (v15.toNat : Int)) ((w64 (s1.2.1 - 2)).toNat) (v16.toNat : Int)) 0 (IntKind.u8.wrap (IntKind.u32.wrap (48 + (IntKind.u32.wrap (Int.tdiv (IntKind.u32.wrap s1.1) 100)))))) := map_set' (by first | rfl | simp only [go_sem, List.map_cons, List.map_nil])
          simp only [go_sem, c1, c5, List.append_eq, List.cons_append, List.nil_append, e_v15a, e_v15b, e_v16a, e_v16b, e_v17a, e_v17b, e_v17d, e_y9, e_v18a, e_v18b, e_v18d, e_y10, c6, e_v19b, e_v19d, e_y11, hp0, fun k => Nat.lt_add_right k hp0, Nat.not_le_of_lt hp0, fun k => Nat.not_le_of_lt (Nat.lt_add_right k hp0)]
          injection h with h; subst h
          exact Sat.ok hQ
        · have h := iteF h c6
          simp only [go_sem, c1, c5, List.append_eq, List.cons_append, List.nil_append, e_v15a, e_v15b, e_v16a, e_v16b, e_v17a, e_v17b, e_v17d, e_y9, e_v18a, e_v18b, e_v18d, e_y10, c6, hp0, fun k => Nat.lt_add_right k hp0, Nat.not_le_of_lt hp0, fun k => Nat.not_le_of_lt (Nat.lt_add_right k hp0)]
          injection h with h; subst h
          exact Sat.ok hQ
      · have h := iteF h c5
        by_cases c7 : 0 < s1.2.1
        · have h := iteT h c7
          obtain ⟨v20, e_v20, h⟩ := ob h
          obtain ⟨e_v20a, e_v20b, e_v20d⟩ := idxM_some e_v20
          simp only [Int.reduceToNat] at e_v20b
          simp only [Int.reduceToNat] at e_v20d
          have e_y12 : List.set (List.map (rowA rowU8) s1.2.2) 0 [.p (.lit (.int .u8 (IntKind.u8.wrap (IntKind.u32.wrap (48 + (IntKind.u32.wrap s1.1))))))] = List.map (rowA rowU8) (List.set s1.2.2 0 (IntKind.u8.wrap (IntKind.u32.wrap (48 + (IntKind.u32.wrap s1.1))))) := map_set' (by first | rfl | simp only [go_sem, List.map_cons, List.map_nil])
          simp only [go_sem, c1, c5, c7, e_v20b, e_v20d, e_y12, hp0, fun k => Nat.lt_add_right k hp0, Nat.not_le_of_lt hp0, fun k => Nat.not_le_of_lt (Nat.lt_add_right k hp0)]
          injection h with h; subst h
          exact Sat.ok hQ
        · have h := iteF h c7
          simp only [go_sem, c1, c5, c7, hp0, fun k => Nat.lt_add_right k hp0, Nat.not_le_of_lt hp0, fun k => Nat.not_le_of_lt (Nat.lt_add_right k hp0)]
          injection h with h; subst h
          exact Sat.ok hQ
  · intro K1 k1 s1 n1 hR1 hE1 hb1 ih1 h
    try dsimp only at h ⊢
    conv => arg 1; arg 7; unfold L109_0 loopAt S03.c109 Tryd.f109; simp only [loopIn, Option.getD_some, if_true]
    by_cases c8 : 8 ≤ s1.2.1
    · have h := iteT h c8
      obtain ⟨v21, e_v21, h⟩ := ob h
      obtain ⟨e_v21a, e_v21b⟩ := idx_some e_v21
      obtain ⟨v22, e_v22, h⟩ := ob h
      obtain ⟨e_v22a, e_v22b⟩ := idx_some e_v22
      obtain ⟨v23, e_v23, h⟩ := ob h
      obtain ⟨e_v23a, e_v23b, e_v23d⟩ := idxM_some e_v23
      have e_y13 : List.set (List.map (rowA rowU8) s1.2.2) ((w64 (s1.2.1 - 1)).toNat) [.p (.lit (.int .u8 (v21.toNat : Int)))] = List.map (rowA rowU8) (List.set s1.2.2 ((w64 (s1.2.1 - 1)).toNat) (v21.toNat : Int)) := map_set' (by first | rfl | simp only [go_sem, List.map_cons, List.map_nil])
      obtain ⟨v24, e_v24, h⟩ := ob h
      obtain ⟨e_v24a, e_v24b, e_v24d⟩ := idxM_some e_v24
      have e_y14 : List.set (List.map (rowA rowU8) (List.set s1.2.2 ((w64 (s1.2.1 - 1)).toNat) (v21.toNat : Int))) ((w64 (s1.2.1 - 2)).toNat) [.p (.lit (.int .u8 (v22.toNat : Int)))] = List.map (rowA rowU8) (List.set (List.set s1.2.2 ((w64 (s1.2.1 - 1)).toNat) (v21.toNat : Int)) ((w64 (s1.2.1 - 2)).toNat) (v22.toNat : Int)) := map_set' (by first | rfl | simp only [go_sem, List.map_cons, List.map_nil])
      obtain ⟨v25, e_v25, h⟩ := ob h
      obtain ⟨e_v25a, e_v25b⟩ := idx_some e_v25
      obtain ⟨v26, e_v26, h⟩ := ob h
      obtain ⟨e_v26a, e_v26b⟩ := idx_some e_v26
      obtain ⟨v27, e_v27, h⟩ := ob h
      obtain ⟨e_v27a, e_v27b, e_v27d⟩ := idxM_some e_v27
      have e_y15 : List.set (List.map (rowA rowU8) (List.set (List.set s1.2.2 ((w64 (s1.2.1 - 1)).toNat) (v21.toNat : Int)) ((w64 (s1.2.1 - 2)).toNat) (v22.toNat : Int))) ((w64 (s1.2.1 - 3)).toNat) [.p (.lit (.int .u8 (v25.toNat : Int)))] = List.map (rowA rowU8) (List.set (List.set (List.set s1.2.2 ((w64 (s1.2.1 - 1)).toNat) (v21.toNat : Int)) ((w64 (s1.2.1 - 2)).toNat) (v22.toNat : Int)) ((w64 (s1.2.1 - 3)).toNat) (v25.toNat : Int)) := map_set' (by first | rfl | simp only [go_sem, List.map_cons, List.map_nil])
      obtain ⟨v28, e_v28, h⟩ := ob h
      obtain ⟨e_v28a, e_v28b, e_v28d⟩ := idxM_some e_v28
      have e_y16 : List.set (List.map (rowA rowU8) (List.set (List.set (List.set s1.2.2 ((w64 (s1.2.1 - 1)).toNat) (v21.toNat : Int)) ((w64 (s1.2.1 - 2)).toNat) (v22.toNat : Int)) ((w64 (s1.2.1 - 3)).toNat) (v25.toNat : Int))) ((w64 (s1.2.1 - 4)).toNat) [.p (.lit (.int .u8 (v26.toNat : Int)))] = List.map (rowA rowU8) (List.set (List.set (List.set (List.set s1.2.2 ((w64 (s1.2.1 - 1)).toNat) (v21.toNat : Int)) ((w64 (s1.2.1 - 2)).toNat) (v22.toNat : Int)) ((w64 (s1.2.1 - 3)).toNat) (v25.toNat : Int)) ((w64 (s1.2.1 - 4)).toNat) (v26.toNat : Int)) := map_set' (by first | rfl | simp only [go_sem, List.map_cons, List.map_nil])
      obtain ⟨v29, e_v29, h⟩ := ob h
      obtain ⟨e_v29a, e_v29b⟩ := idx_some e_v29
      obtain ⟨v30, e_v30, h⟩ := ob h
      obtain ⟨e_v30a, e_v30b⟩ := idx_some e_v30
      obtain ⟨v31, e_v31, h⟩ := ob h
      obtain ⟨e_v31a, e_v31b, e_v31d⟩ := idxM_some e_v31
      have e_y17 : List.set (List.map (rowA rowU8) (List.set (List.set (List.set (List.set s1.2.2 ((w64 (s1.2.1 - 1)).toNat) (v21.toNat : Int)) ((w64 (s1.2.1 - 2)).toNat) (v22.toNat : Int)) ((w64 (s1.2.1 - 3)).toNat) (v25.toNat : Int)) ((w64 (s1.2.1 - 4)).toNat) (v26.toNat : Int))) ((w64 (s1.2.1 - 5)).toNat) [.p (.lit (.int .u8 (v29.toNat : Int)))] = List.map (rowA rowU8) (List.set (List.set (List.set (List.set (List.set s1.2.2 ((w64 (s1.2.1 - 1)).toNat) (v21.toNat : Int)) ((w64 (s1.2.1 - 2)).toNat) (v22.toNat : Int)) ((w64 (s1.2.1 - 3)).toNat) (v25.toNat : Int)) ((w64 (s1.2.1 - 4)).toNat) (v26.toNat : Int)) ((w64 (s1.2.1 - 5)).toNat) (v29.toNat : Int)) := map_set' (by first | rfl | simp only [go_sem, List.map_cons, List.map_nil])
      obtain ⟨v32, e_v32, h⟩ := ob h
      obtain ⟨e_v32a, e_v32b, e_v32d⟩ := idxM_some e_v32
      have e_y18 : List.set (List.map (rowA rowU8) (List.set (List.set (List.set (List.set (List.set s1.2.2 ((w64 (s1.2.1 - 1)).toNat) (v21.toNat : Int)) ((w64 (s1.2.1 - 2)).toNat) (v22.toNat : Int)) ((w64 (s1.2.1 - 3)).toNat) (v25.toNat : Int)) ((w64 (s1.2.1 - 4)).toNat) (v26.toNat : Int)) ((w64 (s1.2.1 - 5)).toNat) (v29.toNat : Int))) ((w64 (s1.2.1 - 6)).toNat) [.p (.lit (.int .u8 (v30.toNat : Int)))] = List.map (rowA rowU8) (List.set (List.set (List.set (List.set (List.set (List.set s1.2.2 ((w64 (s1.2.1 - 1)).toNat) (v21.toNat : Int)) ((w64 (s1.2.1 - 2)).toNat) (v22.toNat : Int)) ((w64 (s1.2.1 - 3)).toNat) (v25.toNat : Int)) ((w64 (s1.2.1 - 4)).toNat) (v26.toNat : Int)) ((w64 (s1.2.1 - 5)).toNat) (v29.toNat : Int)) ((w64 (s1.2.1 - 6)).toNat) (v30.toNat : Int)) := map_set' (by first | rfl | simp only [go_sem, List.map_cons, List.map_nil])
      obtain ⟨v33, e_v33, h⟩ := ob h
      obtain ⟨e_v33a, e_v33b⟩ := idx_some e_v33
      obtain ⟨v34, e_v34, h⟩ := ob h
      obtain ⟨e_v34a, e_v34b⟩ := idx_some e_v34
      obtain ⟨v35, e_v35, h⟩ := ob h
      obtain ⟨e_v35a, e_v35b, e_v35d⟩ := idxM_some e_v35
      have e_y19 : List.set (List.map (rowA rowU8) (List.set (List.set (List.set (List.set (List.set (List.set s1.2.2 ((w64 (s1.2.1 - 1)).toNat) (v21.toNat : Int)) ((w64 (s1.2.1 - 2)).toNat) (v22.toNat : Int)) ((w64 (s1.2.1 - 3)).toNat) (v25.toNat : Int)) ((w64 (s1.2.1 - 4)).toNat) (v26.toNat : Int)) ((w64 (s1.2.1 - 5)).toNat) (v29.toNat : Int)) ((w64 (s1.2.1 - 6)).toNat) (v30.toNat : Int))) ((w64 (s1.2.1 - 7)).toNat) [.p (.lit (.int .u8 (v33.toNat : Int)))] = List.map (rowA rowU8) (List.set (List.set (List.set (List.set (List.set (List.set (List.set s1.2.2 ((w64 (s1.2.1 - 1)).toNat) (v21.toNat : Int)) ((w64 (s1.2.1 - 2)).toNat) (v22.toNat : Int)) ((w64 (s1.2.1 - 3)).toNat) (v25.toNat : Int)) ((w64 (s1.2.1 - 4)).toNat) (v26.toNat : Int)) ((w64 (s1.2.1 - 5)).toNat) (v29.toNat : Int)) ((w64 (s1.2.1 - 6)).toNat) (v30.toNat : Int)) ((w64 (s1.2.1 - 7)).toNat) (v33.toNat : Int)) := map_set' (by first | rfl | simp only [go_sem, List.map_cons, List.map_nil])
      obtain ⟨v36, e_v36, h⟩ := ob h
      obtain ⟨e_v36a, e_v36b, e_v36d⟩ := idxM_some e_v36
      have e_y20 : List.set (List.map (rowA rowU8) (List.set (List.set (List.set (List.set (List.set (List.set (List.set s1.2.2 ((w64 (s1.2.1 - 1)).toNat) (v21.toNat : Int)) ((w64 (s1.2.1 - 2)).toNat) (v22.toNat : Int)) ((w64 (s1.2.1 - 3)).toNat) (v25.toNat : Int)) ((w64 (s1.2.1 - 4)).toNat) (v26.toNat : Int)) ((w64 (s1.2.1 - 5)).toNat) (v29.toNat : Int)) ((w64 (s1.2.1 - 6)).toNat) (v30.toNat : Int)) ((w64 (s1.2.1 - 7)).toNat) (v33.toNat : Int))) ((w64 (s1.2.1 - 8)).toNat) [.p (.lit (.int .u8 (v34.toNat : Int)))] = List.map (rowA rowU8) (List.set (List.set (List.set (List.set (List.set (List.set (List.set (List.set s1.2.2 ((w64 (s1.2.1 - 1)).toNat) (v21.toNat : Int)) ((w64 (s1.2.1 - 2)).toNat) (v22.toNat : Int)) ((w64 (s1.2.1 - 3)).toNat) (v25.toNat : Int)) ((w64 (s1.2.1 - 4)).toNat) (v26.toNat : Int)) ((w64 (s1.2.1 - 5)).toNat) (v29.toNat : Int)) ((w64 (s1.2.1 - 6)).toNat) (v30.toNat : Int)) ((w64 (s1.2.1 - 7)).toNat) (v33.toNat : Int)) ((w64 (s1.2.1 - 8)).toNat) (v34.toNat : Int)) := map_set' (by first | rfl | simp only [go_sem, List.map_cons, List.map_nil])
      simp only [go_sem, c8, List.append_eq, List.cons_append, List.nil_append, e_v21a, e_v21b, e_v22a, e_v22b, e_v23a, e_v23b, e_v23d, e_y13, e_v24a, e_v24b, e_v24d, e_y14, e_v25a, e_v25b, e_v26a, e_v26b, e_v27a, e_v27b, e_v27d, e_y15, e_v28a, e_v28b, e_v28d, e_y16, e_v29a, e_v29b, e_v30a, e_v30b, e_v31a, e_v31b, e_v31d, e_y17, e_v32a, e_v32b, e_v32d, e_y18, e_v33a, e_v33b, e_v34a, e_v34b, e_v35a, e_v35b, e_v35d, e_y19, e_v36a, e_v36b, e_v36d, e_y20, hR1, hE1, hp0, fun k => Nat.lt_add_right k hp0, Nat.not_le_of_lt hp0, fun k => Nat.not_le_of_lt (Nat.lt_add_right k hp0)]
      exact ih1 (IntKind.u64.wrap (Int.tdiv s1.1 100000000), w64 (s1.2.1 - 8), (List.set (List.set (List.set (List.set (List.set (List.set (List.set (List.set s1.2.2 ((w64 (s1.2.1 - 1)).toNat) (v21.toNat : Int)) ((w64 (s1.2.1 - 2)).toNat) (v22.toNat : Int)) ((w64 (s1.2.1 - 3)).toNat) (v25.toNat : Int)) ((w64 (s1.2.1 - 4)).toNat) (v26.toNat : Int)) ((w64 (s1.2.1 - 5)).toNat) (v29.toNat : Int)) ((w64 (s1.2.1 - 6)).toNat) (v30.toNat : Int)) ((w64 (s1.2.1 - 7)).toNat) (v33.toNat : Int)) ((w64 (s1.2.1 - 8)).toNat) (v34.toNat : Int))) h
    · have h := iteF h c8
      simp only [go_sem, c8, hR1, hE1, hp0, fun k => Nat.lt_add_right k hp0, Nat.not_le_of_lt hp0, fun k => Nat.not_le_of_lt (Nat.lt_add_right k hp0)]
      exact hb1 (s1.1, s1.2.1, s1.2.2) h

def internal_strconv_AppendUint (n : Nat) (a0 : List Int) (a1 : Int) (a2 : Int) : Option (List Int) :=
  if a2 = 10 then
    if a1 < 100 then
      (internal_strconv_small (IntKind.i64.wrap a1)).bind fun v1 =>
      (app 1 a0 (ofStr v1)).bind fun v2 =>
      some v2
    else
      (zrow 24 0).bind fun v3 =>
      (internal_strconv_numDigits a1).bind fun v4 =>
      (cutE 24 v3 v4).bind fun v5 =>
      (internal_strconv_formatBase10_mx n v3 v5 a1).bind fun v6 =>
      (cutE 24 v6 v4).bind fun v7 =>
      (allM 0 v5 v6).bind fun v8 =>
      (app 1 a0 v8).bind fun v9 =>
      some v9
  else
    none
theorem spec101 (n : Nat) (a0 : List Int) (a1 : Int) (a2 : Int) (r : List Int) (h : internal_strconv_AppendUint n a0 a1 a2 = some r) :
    call Tryd.prog T H (.fn 101) [.own 1 (List.map rowU8 a0), .p (.lit (.int .u64 a1)), .p (iv a2)] [] = some (.ret (.own 1 (List.map rowU8 r)), []) := by
  refine Sat.fn fun Q hQ => ?_
  unfold internal_strconv_AppendUint at h
  rw [call101]
  conv => arg 1; arg 7; unfold S03.c101 Tryd.f101; simp only [Option.getD_some]
  by_cases c1 : a2 = 10
  · have h := iteT h c1
    have c1b : (a2 == 10) = true := beqT c1
    by_cases c2 : a1 < 100
    · have h := iteT h c2
      obtain ⟨v1, e_v1, h⟩ := ob h
      have e_v1c : call Tryd.prog T H (.fn 107) [.p (iv (IntKind.i64.wrap a1))] [] = some (.ret (.p (.lit (.string (bs v1)))), []) := spec107 (IntKind.i64.wrap a1) v1 e_v1
      obtain ⟨v2, e_v2, h⟩ := ob h
      have e_v2a : boundOk (a0.length + (ofStr v1).length) 1 = true := bnd_of (by have := (app_some e_v2).1; simpa using this) (by decide)
      have e_v2b : (List.map rowU8 a0) ++ (List.map rowU8 (ofStr v1)) = List.map rowU8 v2 := by rw [(app_some e_v2).2]; simp [rowU8]
      have e_v2b : List.map rowU8 (a0 ++ (ofStr v1)) = List.map rowU8 v2 := by rw [(app_some e_v2).2]
      simp only [go_sem, c1b, c2, e_v1c, e_v2a, e_v2b]
      injection h with h; subst h
      exact Sat.ok hQ
    · have h := iteF h c2
      obtain ⟨v3, e_v3, h⟩ := ob h
      have e_v3z : chunk 1 24 [.lit (.int .u8 0), .lit (.int .u8 0), .lit (.int .u8 0), .lit (.int .u8 0), .lit (.int .u8 0), .lit (.int .u8 0), .lit (.int .u8 0), .lit (.int .u8 0), .lit (.int .u8 0), .lit (.int .u8 0), .lit (.int .u8 0), .lit (.int .u8 0), .lit (.int .u8 0), .lit (.int .u8 0), .lit (.int .u8 0), .lit (.int .u8 0), .lit (.int .u8 0), .lit (.int .u8 0), .lit (.int .u8 0), .lit (.int .u8 0), .lit (.int .u8 0), .lit (.int .u8 0), .lit (.int .u8 0), .lit (.int .u8 0)] = List.map (rowA rowU8) v3 := by unfold zrow at e_v3; injection e_v3 with q; rw [← q]; rfl
      have e_v3l : v3.length = 24 := by unfold zrow at e_v3; injection e_v3 with q; rw [← q]; rfl
      obtain ⟨v4, e_v4, h⟩ := ob h
      have e_v4c : call Tryd.prog T H (.fn 108) [.p (.lit (.int .u64 a1))] [] = some (.ret (.p (iv v4)), []) := spec108 a1 v4 e_v4
      obtain ⟨v5, e_v5, h⟩ := ob h
      obtain ⟨e_v5l, e_v5a, e_v5b, e_v5d⟩ := cutE_some e_v5
      obtain ⟨v6, e_v6, h⟩ := ob h
      have e_v6c : call Tryd.prog T H (.fn 109) [.ms 0 0 1 0 v5, .p (.lit (.int .u64 a1))] [.arr 0 1 (List.map (rowA rowU8) v3)] = some (.ret (.p (.tup [])), [.arr 0 1 (List.map (rowA rowU8) v6)]) := by have q := spec109_mx n [.arr 0 1 (List.map (rowA rowU8) v3)] 0 0 (by simp only [List.length_append, List.length_set, List.length_cons, List.length_nil]; omega) v3 v5 a1 v6 e_v6; first | (simp only [go_sem] at q ⊢; exact q) | exact q
      obtain ⟨v7, e_v7, h⟩ := ob h
      obtain ⟨e_v7l, e_v7a, e_v7b, e_v7d⟩ := cutE_some e_v7
      obtain ⟨v8, e_v8, h⟩ := ob h
      have e_v8a := (allM_some e_v8).1
      have e_v8b := (allM_some e_v8).2
      try simp only [Nat.zero_add] at e_v8a
      try simp only [List.drop_zero] at e_v8b
      obtain ⟨v9, e_v9, h⟩ := ob h
      have e_v9a : boundOk (a0.length + v8.length) 1 = true := bnd_of (by have := (app_some e_v9).1; simpa using this) (by decide)
      have e_v9b : (List.map rowU8 a0) ++ (List.map rowU8 v8) = List.map rowU8 v9 := by rw [(app_some e_v9).2]; simp [rowU8]
      have e_v9b : List.map rowU8 (a0 ++ v8) = List.map rowU8 v9 := by rw [(app_some e_v9).2]
      simp only [go_sem, c1b, c2, e_v3z, e_v3l, List.length_set, e_v4c, e_v5l, e_v5a, e_v5b, e_v5d, e_v6c, e_v7l, e_v7a, e_v7b, e_v8a, e_v8b, e_v9a, e_v9b]
      injection h with h; subst h
      exact Sat.ok hQ
  · have h := iteF h c1
    have c1b : (a2 == 10) = false := beqF c1
    cases h

def internal_strconv_AppendInt (n : Nat) (a0 : List Int) (a1 : Int) (a2 : Int) : Option (List Int) :=
  if a1 < 0 then
    (app 1 a0 [45]).bind fun v1 =>
    (internal_strconv_AppendUint n v1 (IntKind.u64.wrap (0 - (IntKind.u64.wrap a1))) a2).bind fun v2 =>
    some v2
  else
    (internal_strconv_AppendUint n a0 (IntKind.u64.wrap a1) a2).bind fun v3 =>
    some v3
theorem spec93 (n : Nat) (a0 : List Int) (a1 : Int) (a2 : Int) (r : List Int) (h : internal_strconv_AppendInt n a0 a1 a2 = some r) :
    call Tryd.prog T H (.fn 93) [.own 1 (List.map rowU8 a0), .p (iv a1), .p (iv a2)] [] = some (.ret (.own 1 (List.map rowU8 r)), []) := by
  refine Sat.fn fun Q hQ => ?_
  unfold internal_strconv_AppendInt at h
  rw [call93]
  conv => arg 1; arg 7; unfold S03.c93 Tryd.f93; simp only [Option.getD_some]
  by_cases c1 : a1 < 0
  · have h := iteT h c1
    obtain ⟨v1, e_v1, h⟩ := ob h
    have e_v1a : boundOk (a0.length + 1) 1 = true := bnd_of (by have := (app_some e_v1).1; simpa using this) (by decide)
    have e_v1b : (List.map rowU8 a0) ++ [[.lit (.int .u8 45)]] = List.map rowU8 v1 := by rw [(app_some e_v1).2]; simp [rowU8]
    obtain ⟨v2, e_v2, h⟩ := ob h
    have e_v2c : call Tryd.prog T H (.fn 101) [.own 1 (List.map rowU8 v1), .p (.lit (.int .u64 (IntKind.u64.wrap (0 - (IntKind.u64.wrap a1))))), .p (iv a2)] [] = some (.ret (.own 1 (List.map rowU8 v2)), []) := spec101 n v1 (IntKind.u64.wrap (0 - (IntKind.u64.wrap a1))) a2 v2 e_v2
    simp only [go_sem, c1, e_v1a, e_v1b, e_v2c]
    injection h with h; subst h
    exact Sat.ok hQ
  · have h := iteF h c1
    obtain ⟨v3, e_v3, h⟩ := ob h
    have e_v3c : call Tryd.prog T H (.fn 101) [.own 1 (List.map rowU8 a0), .p (.lit (.int .u64 (IntKind.u64.wrap a1))), .p (iv a2)] [] = some (.ret (.own 1 (List.map rowU8 v3)), []) := spec101 n a0 (IntKind.u64.wrap a1) a2 v3 e_v3
    simp only [go_sem, c1, e_v3c]
    injection h with h; subst h
    exact Sat.ok hQ

def strconv_AppendInt (n : Nat) (a0 : List Int) (a1 : Int) (a2 : Int) : Option (List Int) :=
  (internal_strconv_AppendInt n a0 a1 a2).bind fun v1 =>
  some v1
theorem spec83 (n : Nat) (a0 : List Int) (a1 : Int) (a2 : Int) (r : List Int) (h : strconv_AppendInt n a0 a1 a2 = some r) :
    call Tryd.prog T H (.fn 83) [.own 1 (List.map rowU8 a0), .p (iv a1), .p (iv a2)] [] = some (.ret (.own 1 (List.map rowU8 r)), []) := by
  refine Sat.fn fun Q hQ => ?_
  unfold strconv_AppendInt at h
  rw [call83]
  conv => arg 1; arg 7; unfold S03.c83 Tryd.f83; simp only [Option.getD_some]
  obtain ⟨v1, e_v1, h⟩ := ob h
  have e_v1c : call Tryd.prog T H (.fn 93) [.own 1 (List.map rowU8 a0), .p (iv a1), .p (iv a2)] [] = some (.ret (.own 1 (List.map rowU8 v1)), []) := spec93 n a0 a1 a2 v1 e_v1
  simp only [go_sem, e_v1c]
  injection h with h; subst h
  exact Sat.ok hQ

def auto_key (n : Nat) (a0 : Int) (a1 : List Int) : Option Str :=
  (strconv_AppendInt n ([] : List Int) a0 10).bind fun v1 =>
  rangeL a1 v1 (fun k1 i1 x1 (s1 : (List Int)) n1 =>
    (app 1 s1 [44]).bind fun v2 =>
    (strconv_AppendInt n v2 x1 10).bind fun v3 =>
    n1 v3) fun s1 =>
  some (strB s1)
theorem spec62 (n : Nat) (a0 : Int) (a1 : List Int) (r : Str) (h : auto_key n a0 a1 = some r) :
    call Tryd.prog T H (.fn 62) [.p (iv a0), .p (.sl none 1 (List.map rowI a1))] [] = some (.ret (.p (.lit (.string (bs r)))), []) := by
  refine Sat.fn fun Q hQ => ?_
  unfold auto_key at h
  rw [call62]
  conv => arg 1; arg 7; unfold S03.c62 Tryd.f62; simp only [Option.getD_some]
  obtain ⟨v1, e_v1, h⟩ := ob h
  have e_v1c : call Tryd.prog T H (.fn 83) [.own 1 [], .p (iv a0), .p (iv 10)] [] = some (.ret (.own 1 (List.map rowU8 v1)), []) := spec83 n ([] : List Int) a0 10 v1 e_v1
  simp only [go_sem, e_v1c]
  refine run_rangeL (c := L62_0) (live := [5, 10, 11, 12]) (by simp only [go_sem]) (M := fun i1 (s1 : (List Int)) => [(5, .own 1 (List.map rowU8 s1)), (10, .p (.sl none 1 (List.map rowI a1))), (11, .p (iv (a1.length : Int))), (12, .p (iv (i1 : Int)))]) (Z := fun i1 (s1 : (List Int)) => []) (N := fun (s1 : (List Int)) => ⟨[(5, .own 1 (List.map rowU8 s1))], [], [], none, false⟩) h rfl rfl (fun _ _ => rfl) ?_ ?_ ?_
  · intro s1 h
    try dsimp only at h ⊢
    simp only [go_sem, bytesR_map, strOf_bs]
    injection h with h; subst h
    exact Sat.ok hQ
  · intro K1 s1 hb1 he1
    try dsimp only
    conv => arg 1; arg 7; unfold L62_0 loopAt S03.c62 Tryd.f62; simp only [loopIn, Option.getD_some, if_true]
    simp only [go_sem, he1]
    exact hb1
  · intro K1 k1 i1 x1 s1 n1 hR1 hE1 hb1 hx1 hi1 hw1 ih1 h
    try dsimp only at h ⊢
    conv => arg 1; arg 7; unfold L62_0 loopAt S03.c62 Tryd.f62; simp only [loopIn, Option.getD_some, if_true]
    obtain ⟨v2, e_v2, h⟩ := ob h
    have e_v2a : boundOk (s1.length + 1) 1 = true := bnd_of (by have := (app_some e_v2).1; simpa using this) (by decide)
    have e_v2b : (List.map rowU8 s1) ++ [[.lit (.int .u8 44)]] = List.map rowU8 v2 := by rw [(app_some e_v2).2]; simp [rowU8]
    obtain ⟨v3, e_v3, h⟩ := ob h
    have e_v3c : call Tryd.prog T H (.fn 83) [.own 1 (List.map rowU8 v2), .p (iv x1), .p (iv 10)] [] = some (.ret (.own 1 (List.map rowU8 v3)), []) := spec83 n v2 x1 10 v3 e_v3
    simp only [go_sem, hx1, hi1, hw1, e_v2a, e_v2b, e_v3c, hR1, hE1]
    exact ih1 v3 h

def ref01_Size : Nat → Tree → Option Int
  | 0, _ => none
  | n + 1, a0 =>
    rangeL a0.Kids 1 (fun k1 i1 x1 (s1 : Int) n1 =>
      (ref01_Size n x1).bind fun v1 =>
      n1 (w64 (s1 + v1))) fun s1 =>
    some s1
theorem spec26 : ∀ (n : Nat), (∀ (a0 : Tree) (r : Int), ref01_Size n a0 = some r →
    call Tryd.prog T H (.fn 26) [.p (.agg [iv a0.Sym, .sl none 2 (List.map row_Tree a0.Kids)])] [] = some (.ret (.p (iv r)), [])) := by
  intro n
  induction n with
  | zero => intro a0 r h; cases h
  | succ n ih =>
    intro a0 r h
    refine Sat.fn fun Q hQ => ?_
    rw [ref01_Size] at h
    rw [call26]
    conv => arg 1; arg 7; unfold S03.c26 Tryd.f26; simp only [Option.getD_some]
    simp only [go_sem]
    refine run_rangeL (c := L26_0) (live := [3, 7, 8, 9]) (by simp only [go_sem]) (M := fun i1 (s1 : Int) => [(3, .p (iv s1)), (7, .p (.sl none 2 (List.map row_Tree a0.Kids))), (8, .p (iv (a0.Kids.length : Int))), (9, .p (iv (i1 : Int)))]) (Z := fun i1 (s1 : Int) => [.cells [.p (iv a0.Sym), .p (.sl none 2 (List.map row_Tree a0.Kids))]]) (N := fun (s1 : Int) => ⟨[(3, .p (iv s1))], [.cells [.p (iv a0.Sym), .p (.sl none 2 (List.map row_Tree a0.Kids))]], [], none, false⟩) h rfl rfl (fun _ _ => rfl) ?_ ?_ ?_
    · intro s1 h
      try dsimp only at h ⊢
      simp only [go_sem]
      injection h with h; subst h
      exact Sat.ok hQ
    · intro K1 s1 hb1 he1
      try dsimp only
      conv => arg 1; arg 7; unfold L26_0 loopAt S03.c26 Tryd.f26; simp only [loopIn, Option.getD_some, if_true]
      simp only [go_sem, he1]
      exact hb1
    · intro K1 k1 i1 x1 s1 n1 hR1 hE1 hb1 hx1 hi1 hw1 ih1 h
      try dsimp only at h ⊢
      conv => arg 1; arg 7; unfold L26_0 loopAt S03.c26 Tryd.f26; simp only [loopIn, Option.getD_some, if_true]
      obtain ⟨v1, e_v1, h⟩ := ob h
      have e_v1c : call Tryd.prog T H (.fn 26) [.p (.agg [iv x1.Sym, .sl none 2 (List.map row_Tree x1.Kids)])] [] = some (.ret (.p (iv v1)), []) := ih x1 v1 e_v1
      simp only [go_sem, hx1, hi1, hw1, e_v1c, hR1, hE1]
      exact ih1 (w64 (s1 + v1)) h



def auto_Single_1_xcefd : Nat → Tree → Automaton → (List (Str × Int)) → Option (Int × Automaton × (List (Str × Int)))
  | 0, _, _, _ => none
  | n + 1, a0, a3, a4 =>
    rangeL a0.Kids (([] : List Int), a3.States, a3.Final, a3.Rules, a4) (fun k1 i1 x1 (s1 : (List Int) × Int × (List Int) × (List Rule) × (List (Str × Int))) n1 =>
      (auto_Single_1_xcefd n x1 (Automaton.mk s1.2.1 s1.2.2.1 s1.2.2.2.1) s1.2.2.2.2).bind fun v3 =>
      (app 8 s1.1 [v3.1]).bind fun v4 =>
      n1 (v4, v3.2.1.States, v3.2.1.Final, v3.2.1.Rules, v3.2.2)) fun s1 =>
    (auto_key n a0.Sym s1.1).bind fun v1 =>
    if ((mget v1 s1.2.2.2.2).isSome) = true then
      some (((mget v1 s1.2.2.2.2).getD 0), (Automaton.mk s1.2.1 s1.2.2.1 s1.2.2.2.1), s1.2.2.2.2)
    else
      (app 40 s1.2.2.2.1 [(Rule.mk a0.Sym s1.1 s1.2.1)]).bind fun v2 =>
      some (s1.2.1, (Automaton.mk (w64 (s1.2.1 + 1)) s1.2.2.1 v2), (mput v1 s1.2.1 s1.2.2.2.2))
theorem spec61_xcefd : ∀ (n : Nat), (∀ (σ : List AObj) (p1 : Nat) (hp1 : p1 < σ.length) (p2 : Nat) (hp2 : p2 < σ.length) (p3 : Nat) (hp3 : p3 < σ.length) (p4 : Nat) (hp4 : p4 < σ.length) (hne1_2 : p1 ≠ p2) (hne1_3 : p1 ≠ p3) (hne1_4 : p1 ≠ p4) (hne2_1 : p2 ≠ p1) (hne2_3 : p2 ≠ p3) (hne2_4 : p2 ≠ p4) (hne3_1 : p3 ≠ p1) (hne3_2 : p3 ≠ p2) (hne3_4 : p3 ≠ p4) (hne4_1 : p4 ≠ p1) (hne4_2 : p4 ≠ p2) (hne4_3 : p4 ≠ p3) (a0 : Tree) (a3 : Automaton) (a4 : List (Str × Int)) (r : Int × Automaton × (List (Str × Int))), auto_Single_1_xcefd n a0 a3 a4 = some r →
    call Tryd.prog T H (.fn 61) [.p (.agg [iv a0.Sym, .sl none 2 (List.map row_Tree a0.Kids)]), .ptr p1 0, .ptr p2 0, .ptr p3 0] (List.set (List.set (List.set (List.set σ p1 (.cells [.fn 61 [.ptr p1 0, .ptr p2 0, .ptr p3 0]])) p2 (.cells [.mp p4])) p3 (.cells [.p (iv a3.States), .own 1 (List.map rowI a3.Final), .own 3 (List.map row_Rule a3.Rules)])) p4 (.map none (List.map (kvE kS pvI) a4))) = some (.ret (.p (iv r.1)), (List.set (List.set (List.set (List.set σ p1 (.cells [.fn 61 [.ptr p1 0, .ptr p2 0, .ptr p3 0]])) p2 (.cells [.mp p4])) p3 (.cells [.p (iv r.2.1.States), .own 1 (List.map rowI r.2.1.Final), .own 3 (List.map row_Rule r.2.1.Rules)])) p4 (.map none (List.map (kvE kS pvI) r.2.2))))) := by
  intro n
  induction n with
  | zero => intro σ p1 hp1 p2 hp2 p3 hp3 p4 hp4 hne1_2 hne1_3 hne1_4 hne2_1 hne2_3 hne2_4 hne3_1 hne3_2 hne3_4 hne4_1 hne4_2 hne4_3 a0 a3 a4 r h; cases h
  | succ n ih =>
    intro σ p1 hp1 p2 hp2 p3 hp3 p4 hp4 hne1_2 hne1_3 hne1_4 hne2_1 hne2_3 hne2_4 hne3_1 hne3_2 hne3_4 hne4_1 hne4_2 hne4_3 a0 a3 a4 r h
    refine Sat.fn fun Q hQ => ?_
    rw [auto_Single_1_xcefd] at h
    rw [call61]
    conv => arg 1; arg 7; unfold S03.c61 Tryd.f61; simp only [Option.getD_some]
    simp only [go_sem, hp1, fun k => Nat.lt_add_right k hp1, hp2, fun k => Nat.lt_add_right k hp2, hp3, fun k => Nat.lt_add_right k hp3, hp4, fun k => Nat.lt_add_right k hp4, hne1_2, hne1_3, hne1_4, hne2_1, hne2_3, hne2_4, hne3_1, hne3_2, hne3_4, hne4_1, hne4_2, hne4_3, Nat.not_le_of_lt hp1, fun k => Nat.not_le_of_lt (Nat.lt_add_right k hp1), Nat.not_le_of_lt hp2, fun k => Nat.not_le_of_lt (Nat.lt_add_right k hp2), Nat.not_le_of_lt hp3, fun k => Nat.not_le_of_lt (Nat.lt_add_right k hp3), Nat.not_le_of_lt hp4, fun k => Nat.not_le_of_lt (Nat.lt_add_right k hp4)]
    refine run_rangeL (c := L61_0) (live := [1, 2, 3, 4, 6, 13, 14, 15]) (by simp only [go_sem]) (M := fun i1 (s1 : (List Int) × Int × (List Int) × (List Rule) × (List (Str × Int))) => [(1, .ptr p1 0), (2, .ptr p2 0), (3, .ptr p3 0), (4, .ptr σ.length 0), (6, .own 1 (List.map rowI s1.1)), (13, .p (.sl none 2 (List.map row_Tree a0.Kids))), (14, .p (iv (a0.Kids.length : Int))), (15, .p (iv (i1 : Int)))]) (Z := fun i1 (s1 : (List Int) × Int × (List Int) × (List Rule) × (List (Str × Int))) => ((List.set (List.set (List.set (List.set σ p1 (.cells [.fn 61 [.ptr p1 0, .ptr p2 0, .ptr p3 0]])) p2 (.cells [.mp p4])) p3 (.cells [.p (iv s1.2.1), .own 1 (List.map rowI s1.2.2.1), .own 3 (List.map row_Rule s1.2.2.2.1)])) p4 (.map none (List.map (kvE kS pvI) s1.2.2.2.2))) ++ [.cells [.p (iv a0.Sym), .p (.sl none 2 (List.map row_Tree a0.Kids))]])) (N := fun (s1 : (List Int) × Int × (List Int) × (List Rule) × (List (Str × Int))) => ⟨[(2, .ptr p2 0), (3, .ptr p3 0), (4, .ptr σ.length 0), (6, .own 1 (List.map rowI s1.1))], ((List.set (List.set (List.set (List.set σ p1 (.cells [.fn 61 [.ptr p1 0, .ptr p2 0, .ptr p3 0]])) p2 (.cells [.mp p4])) p3 (.cells [.p (iv s1.2.1), .own 1 (List.map rowI s1.2.2.1), .own 3 (List.map row_Rule s1.2.2.2.1)])) p4 (.map none (List.map (kvE kS pvI) s1.2.2.2.2))) ++ [.cells [.p (iv a0.Sym), .p (.sl none 2 (List.map row_Tree a0.Kids))]]), [], none, false⟩) h rfl rfl (fun _ _ => rfl) ?_ ?_ ?_
    · intro s1 h
      try dsimp only at h ⊢
      obtain ⟨v1, e_v1, h⟩ := ob h
      have e_v1c : call Tryd.prog T H (.fn 62) [.p (iv a0.Sym), .p (.sl none 1 (List.map rowI s1.1))] [] = some (.ret (.p (.lit (.string (bs v1)))), []) := spec62 n a0.Sym s1.1 v1 e_v1
      have e_m1f : findKV (.string (bs v1)) (List.map (kvE kS pvI) s1.2.2.2.2) = Option.map pvI (mget v1 s1.2.2.2.2) := find_S pvI _ s1.2.2.2.2
      have e_m1r : mapRes true (iv 0) (Option.map pvI (mget v1 s1.2.2.2.2)) = .p (.tup [iv ((mget v1 s1.2.2.2.2).getD 0), bv ((mget v1 s1.2.2.2.2).isSome)]) := by first | exact res_t pvI 0 _ | (simp only [pvI]; cases (mget v1 s1.2.2.2.2) <;> rfl) | (cases (mget v1 s1.2.2.2.2) <;> simp [mapRes, pvI])
      by_cases c1 : ((mget v1 s1.2.2.2.2).isSome) = true
      · have h := iteT h c1
        simp only [go_sem, e_v1c, e_m1f, e_m1r, c1, hp1, fun k => Nat.lt_add_right k hp1, hp2, fun k => Nat.lt_add_right k hp2, hp3, fun k => Nat.lt_add_right k hp3, hp4, fun k => Nat.lt_add_right k hp4, hne1_2, hne1_3, hne1_4, hne2_1, hne2_3, hne2_4, hne3_1, hne3_2, hne3_4, hne4_1, hne4_2, hne4_3, Nat.not_le_of_lt hp1, fun k => Nat.not_le_of_lt (Nat.lt_add_right k hp1), Nat.not_le_of_lt hp2, fun k => Nat.not_le_of_lt (Nat.lt_add_right k hp2), Nat.not_le_of_lt hp3, fun k => Nat.not_le_of_lt (Nat.lt_add_right k hp3), Nat.not_le_of_lt hp4, fun k => Nat.not_le_of_lt (Nat.lt_add_right k hp4)]
        injection h with h; subst h
        exact Sat.ok hQ
      · have h := iteF h c1
        have c1 := eq_false_of_ne_true c1
        have e_m2y : setKV (.string (bs v1)) (iv s1.2.1) (List.map (kvE kS pvI) s1.2.2.2.2) = List.map (kvE kS pvI) (mput v1 s1.2.1 s1.2.2.2.2) := by first | exact set_S pvI v1 s1.2.1 s1.2.2.2.2 | (have q := set_S pvI v1 s1.2.1 s1.2.2.2.2; simp only [pvI] at q ⊢; exact q)
        obtain ⟨v2, e_v2, h⟩ := ob h
        have e_v2a : boundOk (s1.2.2.2.1.length + 1) 40 = true := bnd_of (by have := (app_some e_v2).1; simpa using this) (by decide)
        have e_v2b : (List.map row_Rule s1.2.2.2.1) ++ [[iv a0.Sym, .sl none 1 (List.map rowI s1.1), iv s1.2.1]] = List.map row_Rule v2 := by rw [(app_some e_v2).2]; simp [row_Rule_eq]
        simp only [go_sem, e_v1c, e_m1f, e_m1r, c1, e_m2y, e_v2a, e_v2b, hp1, fun k => Nat.lt_add_right k hp1, hp2, fun k => Nat.lt_add_right k hp2, hp3, fun k => Nat.lt_add_right k hp3, hp4, fun k => Nat.lt_add_right k hp4, hne1_2, hne1_3, hne1_4, hne2_1, hne2_3, hne2_4, hne3_1, hne3_2, hne3_4, hne4_1, hne4_2, hne4_3, Nat.not_le_of_lt hp1, fun k => Nat.not_le_of_lt (Nat.lt_add_right k hp1), Nat.not_le_of_lt hp2, fun k => Nat.not_le_of_lt (Nat.lt_add_right k hp2), Nat.not_le_of_lt hp3, fun k => Nat.not_le_of_lt (Nat.lt_add_right k hp3), Nat.not_le_of_lt hp4, fun k => Nat.not_le_of_lt (Nat.lt_add_right k hp4)]
        injection h with h; subst h
        exact Sat.ok hQ
    · intro K1 s1 hb1 he1
      try dsimp only
      conv => arg 1; arg 7; unfold L61_0 loopAt S03.c61 Tryd.f61; simp only [loopIn, Option.getD_some, if_true]
      simp only [go_sem, he1, hp1, fun k => Nat.lt_add_right k hp1, hp2, fun k => Nat.lt_add_right k hp2, hp3, fun k => Nat.lt_add_right k hp3, hp4, fun k => Nat.lt_add_right k hp4, hne1_2, hne1_3, hne1_4, hne2_1, hne2_3, hne2_4, hne3_1, hne3_2, hne3_4, hne4_1, hne4_2, hne4_3, Nat.not_le_of_lt hp1, fun k => Nat.not_le_of_lt (Nat.lt_add_right k hp1), Nat.not_le_of_lt hp2, fun k => Nat.not_le_of_lt (Nat.lt_add_right k hp2), Nat.not_le_of_lt hp3, fun k => Nat.not_le_of_lt (Nat.lt_add_right k hp3), Nat.not_le_of_lt hp4, fun k => Nat.not_le_of_lt (Nat.lt_add_right k hp4)]
      exact hb1
    · intro K1 k1 i1 x1 s1 n1 hR1 hE1 hb1 hx1 hi1 hw1 ih1 h
      try dsimp only at h ⊢
      conv => arg 1; arg 7; unfold L61_0 loopAt S03.c61 Tryd.f61; simp only [loopIn, Option.getD_some, if_true]
      obtain ⟨v3, e_v3, h⟩ := ob h
      have e_v3c : call Tryd.prog T H (.fn 61) [.p (.agg [iv x1.Sym, .sl none 2 (List.map row_Tree x1.Kids)]), .ptr p1 0, .ptr p2 0, .ptr p3 0] ((List.set (List.set (List.set (List.set σ p1 (.cells [.fn 61 [.ptr p1 0, .ptr p2 0, .ptr p3 0]])) p2 (.cells [.mp p4])) p3 (.cells [.p (iv s1.2.1), .own 1 (List.map rowI s1.2.2.1), .own 3 (List.map row_Rule s1.2.2.2.1)])) p4 (.map none (List.map (kvE kS pvI) s1.2.2.2.2))) ++ [.cells [.p (iv a0.Sym), .p (.sl none 2 (List.map row_Tree a0.Kids))], .cells [.p (iv x1.Sym), .p (.sl none 2 (List.map row_Tree x1.Kids))]]) = some (.ret (.p (iv v3.1)), ((List.set (List.set (List.set (List.set σ p1 (.cells [.fn 61 [.ptr p1 0, .ptr p2 0, .ptr p3 0]])) p2 (.cells [.mp p4])) p3 (.cells [.p (iv v3.2.1.States), .own 1 (List.map rowI v3.2.1.Final), .own 3 (List.map row_Rule v3.2.1.Rules)])) p4 (.map none (List.map (kvE kS pvI) v3.2.2))) ++ [.cells [.p (iv a0.Sym), .p (.sl none 2 (List.map row_Tree a0.Kids))], .cells [.p (iv x1.Sym), .p (.sl none 2 (List.map row_Tree x1.Kids))]])) := by have q := ih ((List.set (List.set (List.set (List.set σ p1 (.cells [.fn 61 [.ptr p1 0, .ptr p2 0, .ptr p3 0]])) p2 (.cells [.mp p4])) p3 (.cells [.p (iv s1.2.1), .own 1 (List.map rowI s1.2.2.1), .own 3 (List.map row_Rule s1.2.2.2.1)])) p4 (.map none (List.map (kvE kS pvI) s1.2.2.2.2))) ++ [.cells [.p (iv a0.Sym), .p (.sl none 2 (List.map row_Tree a0.Kids))], .cells [.p (iv x1.Sym), .p (.sl none 2 (List.map row_Tree x1.Kids))]]) p1 (by simp only [List.length_append, List.length_set, List.length_cons, List.length_nil]; omega) p2 (by simp only [List.length_append, List.length_set, List.length_cons, List.length_nil]; omega) p3 (by simp only [List.length_append, List.length_set, List.length_cons, List.length_nil]; omega) p4 (by simp only [List.length_append, List.length_set, List.length_cons, List.length_nil]; omega) (by omega) (by omega) (by omega) (by omega) (by omega) (by omega) (by omega) (by omega) (by omega) (by omega) (by omega) (by omega) x1 (Automaton.mk s1.2.1 s1.2.2.1 s1.2.2.2.1) s1.2.2.2.2 v3 e_v3; first | (simp only [go_sem, hp1, fun k => Nat.lt_add_right k hp1, hp2, fun k => Nat.lt_add_right k hp2, hp3, fun k => Nat.lt_add_right k hp3, hp4, fun k => Nat.lt_add_right k hp4, hne1_2, hne1_3, hne1_4, hne2_1, hne2_3, hne2_4, hne3_1, hne3_2, hne3_4, hne4_1, hne4_2, hne4_3, Nat.not_le_of_lt hp1, fun k => Nat.not_le_of_lt (Nat.lt_add_right k hp1), Nat.not_le_of_lt hp2, fun k => Nat.not_le_of_lt (Nat.lt_add_right k hp2), Nat.not_le_of_lt hp3, fun k => Nat.not_le_of_lt (Nat.lt_add_right k hp3), Nat.not_le_of_lt hp4, fun k => Nat.not_le_of_lt (Nat.lt_add_right k hp4)] at q ⊢; exact q) | exact q
      obtain ⟨v4, e_v4, h⟩ := ob h
      have e_v4a : boundOk (s1.1.length + 1) 8 = true := bnd_of (by have := (app_some e_v4).1; simpa using this) (by decide)
      have e_v4b : (List.map rowI s1.1) ++ [[iv v3.1]] = List.map rowI v4 := by rw [(app_some e_v4).2]; simp [rowI]
      simp only [go_sem, hx1, hi1, hw1, e_v3c, e_v4a, e_v4b, hR1, hE1, hp1, fun k => Nat.lt_add_right k hp1, hp2, fun k => Nat.lt_add_right k hp2, hp3, fun k => Nat.lt_add_right k hp3, hp4, fun k => Nat.lt_add_right k hp4, hne1_2, hne1_3, hne1_4, hne2_1, hne2_3, hne2_4, hne3_1, hne3_2, hne3_4, hne4_1, hne4_2, hne4_3, Nat.not_le_of_lt hp1, fun k => Nat.not_le_of_lt (Nat.lt_add_right k hp1), Nat.not_le_of_lt hp2, fun k => Nat.not_le_of_lt (Nat.lt_add_right k hp2), Nat.not_le_of_lt hp3, fun k => Nat.not_le_of_lt (Nat.lt_add_right k hp3), Nat.not_le_of_lt hp4, fun k => Nat.not_le_of_lt (Nat.lt_add_right k hp4)]
      exact ih1 (v4, v3.2.1.States, v3.2.1.Final, v3.2.1.Rules, v3.2.2) h

def auto_Single (n : Nat) (a0 : Alphabet) (a1 : Tree) : Option (Automaton × Int) :=
  (tree_Valid n a0 a1).bind fun v1 =>
  if v1 = true then
    (auto_Single_1_xcefd n a1 (Automaton.mk 0 ([] : List Int) ([] : List Rule)) ([] : List (Str × Int))).bind fun v2 =>
    some ((Automaton.mk v2.2.1.States [v2.1] v2.2.1.Rules), 0)
  else
    some ((Automaton.mk 0 ([] : List Int) ([] : List Rule)), 1)
theorem spec21 (n : Nat) (a0 : Alphabet) (a1 : Tree) (r : Automaton × Int) (h : auto_Single n a0 a1 = some r) :
    call Tryd.prog T H (.fn 21) [.p (.agg [.sl none 1 (List.map rowI a0.Ranks)]), .p (.agg [iv a1.Sym, .sl none 2 (List.map row_Tree a1.Kids)])] [] = some (.ret (.p (.tup [.agg [iv r.1.States, .sl none 1 (List.map rowI r.1.Final), .sl none 3 (List.map row_Rule r.1.Rules)], iv r.2])), []) := by
  refine Sat.fn fun Q hQ => ?_
  unfold auto_Single at h
  rw [call21]
  conv => arg 1; arg 7; unfold S03.c21 Tryd.f21; simp only [Option.getD_some]
  obtain ⟨v1, e_v1, h⟩ := ob h
  have e_v1c : call Tryd.prog T H (.fn 60) [.p (.agg [.sl none 1 (List.map rowI a0.Ranks)]), .p (.agg [iv a1.Sym, .sl none 2 (List.map row_Tree a1.Kids)])] [] = some (.ret (.p (bv v1)), []) := spec60 n a0 a1 v1 e_v1
  by_cases c1 : v1 = true
  · have h := iteT h c1
    obtain ⟨v2, e_v2, h⟩ := ob h
    have e_v2c : call Tryd.prog T H (.fn 61) [.p (.agg [iv a1.Sym, .sl none 2 (List.map row_Tree a1.Kids)]), .ptr 6 0, .ptr 5 0, .ptr 3 0] [.cells [.p (.sl none 1 (List.map rowI a0.Ranks))], .cells [.p (iv a1.Sym), .p (.sl none 2 (List.map row_Tree a1.Kids))], .cells [.p (iv 0), .own 1 [], .own 3 []], .cells [.p (iv 0), .own 1 [], .own 3 []], .map none [], .cells [.mp 4], .cells [.fn 61 [.ptr 6 0, .ptr 5 0, .ptr 3 0]]] = some (.ret (.p (iv v2.1)), [.cells [.p (.sl none 1 (List.map rowI a0.Ranks))], .cells [.p (iv a1.Sym), .p (.sl none 2 (List.map row_Tree a1.Kids))], .cells [.p (iv 0), .own 1 [], .own 3 []], .cells [.p (iv v2.2.1.States), .own 1 (List.map rowI v2.2.1.Final), .own 3 (List.map row_Rule v2.2.1.Rules)], .map none (List.map (kvE kS pvI) v2.2.2), .cells [.mp 4], .cells [.fn 61 [.ptr 6 0, .ptr 5 0, .ptr 3 0]]]) := by have q := spec61_xcefd n [.cells [.p (.sl none 1 (List.map rowI a0.Ranks))], .cells [.p (iv a1.Sym), .p (.sl none 2 (List.map row_Tree a1.Kids))], .cells [.p (iv 0), .own 1 [], .own 3 []], .cells [.p (iv 0), .own 1 [], .own 3 []], .map none [], .cells [.mp 4], .cells [.fn 61 [.ptr 6 0, .ptr 5 0, .ptr 3 0]]] 6 (by simp only [List.length_append, List.length_set, List.length_cons, List.length_nil]; omega) 5 (by simp only [List.length_append, List.length_set, List.length_cons, List.length_nil]; omega) 3 (by simp only [List.length_append, List.length_set, List.length_cons, List.length_nil]; omega) 4 (by simp only [List.length_append, List.length_set, List.length_cons, List.length_nil]; omega) (by omega) (by omega) (by omega) (by omega) (by omega) (by omega) (by omega) (by omega) (by omega) (by omega) (by omega) (by omega) a1 (Automaton.mk 0 ([] : List Int) ([] : List Rule)) ([] : List (Str × Int)) v2 e_v2; first | (simp only [go_sem] at q ⊢; exact q) | exact q
    simp only [go_sem, e_v1c, c1, e_v2c]
    injection h with h; subst h
    simp only [List.map_cons, List.map_nil, rowI] at hQ
    exact Sat.ok hQ
  · have h := iteF h c1
    have c1 := eq_false_of_ne_true c1
    simp only [go_sem, e_v1c, c1]
    injection h with h; subst h
    exact Sat.ok hQ

def ref03_One (a0 : Automaton) : Option Bool :=
  rangeL a0.Rules () (fun k2 i2 x2 (s2 : Unit) n2 =>
    (slcT a0.Rules (i2 : Int)).bind fun v1 =>
    rangeL v1 () (fun k3 i3 x3 (s3 : Unit) n3 =>
      if x2.Sym = x3.Sym then
        (ref01_List x2.From x3.From).bind fun v2 =>
        if v2 = true then
          some false
        else
          n3 ()
      else
        n3 ()) fun s3 =>
    n2 ()) fun s2 =>
  some true
theorem spec23 (a0 : Automaton) (r : Bool) (h : ref03_One a0 = some r) :
    call Tryd.prog T H (.fn 23) [.p (.agg [iv a0.States, .sl none 1 (List.map rowI a0.Final), .sl none 3 (List.map row_Rule a0.Rules)])] [] = some (.ret (.p (bv r)), []) := by
  refine Sat.fn fun Q hQ => ?_
  unfold ref03_One at h
  rw [call23]
  conv => arg 1; arg 7; unfold S03.c23 Tryd.f23; simp only [Option.getD_some]
  simp only [go_sem]
  refine run_rangeL (c := L23_0) (live := [1, 8, 9, 10]) (by simp only [go_sem]) (M := fun i2 (s2 : Unit) => [(1, .ptr 0 0), (8, .p (.sl none 3 (List.map row_Rule a0.Rules))), (9, .p (iv (a0.Rules.length : Int))), (10, .p (iv (i2 : Int)))]) (Z := fun i2 (s2 : Unit) => [.cells [.p (iv a0.States), .p (.sl none 1 (List.map rowI a0.Final)), .p (.sl none 3 (List.map row_Rule a0.Rules))]]) (N := fun (s2 : Unit) => ⟨[], [.cells [.p (iv a0.States), .p (.sl none 1 (List.map rowI a0.Final)), .p (.sl none 3 (List.map row_Rule a0.Rules))]], [], none, false⟩) h rfl rfl (fun _ _ => rfl) ?_ ?_ ?_
  · intro s2 h
    try dsimp only at h ⊢
    simp only [go_sem]
    injection h with h; subst h
    exact Sat.ok hQ
  · intro K2 s2 hb2 he2
    try dsimp only
    conv => arg 1; arg 7; unfold L23_0 loopAt S03.c23 Tryd.f23; simp only [loopIn, Option.getD_some, if_true]
    simp only [go_sem, he2]
    exact hb2
  · intro K2 k2 i2 x2 s2 n2 hR2 hE2 hb2 hx2 hi2 hw2 ih2 h
    try dsimp only at h ⊢
    conv => arg 1; arg 7; unfold L23_0 loopAt S03.c23 Tryd.f23; simp only [loopIn, Option.getD_some, if_true]
    obtain ⟨v1, e_v1, h⟩ := ob h
    obtain ⟨e_v11, e_v12, e_v13, e_v14⟩ := slcT_some e_v1
    try simp only [Int.toNat_natCast] at e_v11
    try simp only [Int.toNat_natCast] at e_v13
    try simp only [Int.toNat_natCast] at e_v14
    simp only [go_sem, hx2, hi2, hw2, e_v11, e_v13, ← e_v14, hR2, hE2]
    refine run_rangeL (c := L23_2) (live := [1, 4, 8, 9, 10, 18, 19, 20]) (by simp only [go_sem]) (M := fun i3 (s3 : Unit) => [(1, .ptr 0 0), (4, .ptr 1 0), (8, .p (.sl none 3 (List.map row_Rule a0.Rules))), (9, .p (iv (a0.Rules.length : Int))), (10, .p (iv (i2 : Int))), (18, .p (.sl none 3 (List.map row_Rule v1))), (19, .p (iv (v1.length : Int))), (20, .p (iv (i3 : Int)))]) (Z := fun i3 (s3 : Unit) => [.cells [.p (iv a0.States), .p (.sl none 1 (List.map rowI a0.Final)), .p (.sl none 3 (List.map row_Rule a0.Rules))], .cells [.p (iv x2.Sym), .p (.sl none 1 (List.map rowI x2.From)), .p (iv x2.To)]]) (N := fun (s3 : Unit) => ⟨[(1, .ptr 0 0), (8, .p (.sl none 3 (List.map row_Rule a0.Rules))), (9, .p (iv (a0.Rules.length : Int))), (10, .p (iv (i2 : Int)))], [.cells [.p (iv a0.States), .p (.sl none 1 (List.map rowI a0.Final)), .p (.sl none 3 (List.map row_Rule a0.Rules))], .cells [.p (iv x2.Sym), .p (.sl none 1 (List.map rowI x2.From)), .p (iv x2.To)]], [], none, false⟩) h rfl rfl (fun _ _ => rfl) ?_ ?_ ?_
    · intro s3 h
      try dsimp only at h ⊢
      simp only [go_sem, hw2, hR2, hE2]
      exact ih2 () h
    · intro K3 s3 hb3 he3
      try dsimp only
      conv => arg 1; arg 7; unfold L23_2 loopAt S03.c23 Tryd.f23; simp only [loopIn, Option.getD_some, if_true]
      simp only [go_sem, he3]
      exact hb3
    · intro K3 k3 i3 x3 s3 n3 hR3 hE3 hb3 hx3 hi3 hw3 ih3 h
      try dsimp only at h ⊢
      conv => arg 1; arg 7; unfold L23_2 loopAt S03.c23 Tryd.f23; simp only [loopIn, Option.getD_some, if_true]
      by_cases c1 : x2.Sym = x3.Sym
      · have h := iteT h c1
        have c1b : (x2.Sym == x3.Sym) = true := beqT c1
        obtain ⟨v2, e_v2, h⟩ := ob h
        have e_v2c : call Tryd.prog T H (.fn 15) [.p (.sl none 1 (List.map rowI x2.From)), .p (.sl none 1 (List.map rowI x3.From))] [] = some (.ret (.p (bv v2)), []) := spec15 x2.From x3.From v2 e_v2
        by_cases c2 : v2 = true
        · have h := iteT h c2
          simp only [go_sem, hx3, hi3, hw3, c1b, e_v2c, c2, hw2, hR2, hE2, hR3, hE3]
          injection h with h; subst h
          exact Sat.ok hQ
        · have h := iteF h c2
          have c2 := eq_false_of_ne_true c2
          simp only [go_sem, hx3, hi3, hw3, c1b, e_v2c, c2, hw2, hR2, hE2, hR3, hE3]
          exact ih3 () h
      · have h := iteF h c1
        have c1b : (x2.Sym == x3.Sym) = false := beqF c1
        simp only [go_sem, hx3, hi3, hw3, c1b, hw2, hR2, hE2, hR3, hE3]
        exact ih3 () h

def ref03_Less (a0 : List Int) (a1 : List Int) : Option Int :=
  rangeI (minI (a0.length : Int) (a1.length : Int)) () (fun k1 i1 (s1 : Unit) n1 =>
    (a0[i1]?).bind fun v1 =>
    (a1[i1]?).bind fun v2 =>
    if v1 < v2 then
      some (-1)
    else
      if v2 < v1 then
        some 1
      else
        n1 ()) fun s1 =>
  if (a0.length : Int) < (a1.length : Int) then
    some (-1)
  else
    if (a1.length : Int) < (a0.length : Int) then
      some 1
    else
      some 0
theorem spec94 (a0 : List Int) (a1 : List Int) (r : Int) (h : ref03_Less a0 a1 = some r) :
    call Tryd.prog T H (.fn 94) [.p (.sl none 1 (List.map rowI a0)), .p (.sl none 1 (List.map rowI a1))] [] = some (.ret (.p (iv r)), []) := by
  refine Sat.fn fun Q hQ => ?_
  unfold ref03_Less at h
  rw [call94]
  conv => arg 1; arg 7; unfold S03.c94 Tryd.f94; simp only [Option.getD_some]
  simp only [go_sem]
  refine run_rangeI (c := L94_0) (live := [0, 1, 10, 11]) (by simp only [go_sem]) (M := fun i1 (s1 : Unit) => [(0, .p (.sl none 1 (List.map rowI a0))), (1, .p (.sl none 1 (List.map rowI a1))), (10, .p (iv (minI (a0.length : Int) (a1.length : Int)))), (11, .p (iv (i1 : Int)))]) (Z := fun i1 (s1 : Unit) => []) (N := fun (s1 : Unit) => ⟨[(0, .p (.sl none 1 (List.map rowI a0))), (1, .p (.sl none 1 (List.map rowI a1)))], [], [], none, false⟩) h rfl rfl (fun _ _ => rfl) ?_ ?_ ?_
  · intro s1 h
    try dsimp only at h ⊢
    by_cases c1 : (a0.length : Int) < (a1.length : Int)
    · have h := iteT h c1
      simp only [go_sem, c1]
      injection h with h; subst h
      exact Sat.ok hQ
    · have h := iteF h c1
      by_cases c2 : (a1.length : Int) < (a0.length : Int)
      · have h := iteT h c2
        simp only [go_sem, c1, c2]
        injection h with h; subst h
        exact Sat.ok hQ
      · have h := iteF h c2
        simp only [go_sem, c1, c2]
        injection h with h; subst h
        exact Sat.ok hQ
  · intro K1 i1 s1 hb1 he1
    try dsimp only
    conv => arg 1; arg 7; unfold L94_0 loopAt S03.c94 Tryd.f94; simp only [loopIn, Option.getD_some, if_true]
    simp only [go_sem, he1]
    exact hb1
  · intro K1 k1 i1 s1 n1 hR1 hE1 hb1 hi1 hw1 ih1 h
    try dsimp only at h ⊢
    conv => arg 1; arg 7; unfold L94_0 loopAt S03.c94 Tryd.f94; simp only [loopIn, Option.getD_some, if_true]
    obtain ⟨v1, e_v1, h⟩ := ob h
    obtain ⟨v2, e_v2, h⟩ := ob h
    by_cases c3 : v1 < v2
    · have h := iteT h c3
      simp only [go_sem, hi1, hw1, e_v1, e_v2, c3, hR1, hE1]
      injection h with h; subst h
      exact Sat.ok hQ
    · have h := iteF h c3
      by_cases c4 : v2 < v1
      · have h := iteT h c4
        simp only [go_sem, hi1, hw1, e_v1, e_v2, c3, c4, hR1, hE1]
        injection h with h; subst h
        exact Sat.ok hQ
      · have h := iteF h c4
        simp only [go_sem, hi1, hw1, e_v1, e_v2, c3, c4, hR1, hE1]
        exact ih1 () h

def ref03_key (a0 : Rule) : Option (List Int) :=
  (app 8 [a0.Sym] a0.From).bind fun v1 =>
  (app 8 v1 [a0.To]).bind fun v2 =>
  some v2
theorem spec95 (a0 : Rule) (r : List Int) (h : ref03_key a0 = some r) :
    call Tryd.prog T H (.fn 95) [.p (.agg [iv a0.Sym, .sl none 1 (List.map rowI a0.From), iv a0.To])] [] = some (.ret (.p (.sl none 1 (List.map rowI r))), []) := by
  refine Sat.fn fun Q hQ => ?_
  unfold ref03_key at h
  rw [call95]
  conv => arg 1; arg 7; unfold S03.c95 Tryd.f95; simp only [Option.getD_some]
  obtain ⟨v1, e_v1, h⟩ := ob h
  have e_v1a : boundOk (1 + a0.From.length) 8 = true := bnd_of (by have := (app_some e_v1).1; simpa using this) (by decide)
  have e_v1b : [[iv a0.Sym]] ++ (List.map rowI a0.From) = List.map rowI v1 := by rw [(app_some e_v1).2]; simp [rowI]
  obtain ⟨v2, e_v2, h⟩ := ob h
  have e_v2a : boundOk (v1.length + 1) 8 = true := bnd_of (by have := (app_some e_v2).1; simpa using this) (by decide)
  have e_v2b : (List.map rowI v1) ++ [[iv a0.To]] = List.map rowI v2 := by rw [(app_some e_v2).2]; simp [rowI]
  simp only [go_sem, e_v1a, e_v1b, e_v2a, e_v2b]
  injection h with h; subst h
  exact Sat.ok hQ

def ref03_Reached (n : Nat) (a0 : Automaton) : Option (List Bool) :=
  (mkz 1 a0.States a0.States false).bind fun v1 =>
  whileL n (true, v1) (fun k9 (s9 : Bool × (List Bool)) n9 =>
    if s9.1 = true then
      rangeL a0.Rules (false, s9.2) (fun k12 i12 x12 (s12 : Bool × (List Bool)) n12 =>
        rangeL x12.From true (fun k13 i13 x13 (s13 : Bool) n13 =>
          if s13 = true then
            (idxM ((a0.States).toNat) s12.2 x13).bind fun v4 =>
            n13 v4
          else
            n13 false) fun s13 =>
        if s13 = true then
          (idxM ((a0.States).toNat) s12.2 x12.To).bind fun v3 =>
          if v3 = true then
            n12 (s12.1, s12.2)
          else
            n12 (true, (List.set s12.2 ((x12.To).toNat) true))
        else
          n12 (s12.1, s12.2)) fun s12 =>
      n9 (s12.1, s12.2)
    else
      k9 (false, s9.2)) fun s9 =>
  (tkM ((a0.States).toNat) s9.2).bind fun v2 =>
  some v2
theorem spec79 (n : Nat) (a0 : Automaton) (r : List Bool) (h : ref03_Reached n a0 = some r) :
    call Tryd.prog T H (.fn 79) [.p (.agg [iv a0.States, .sl none 1 (List.map rowI a0.Final), .sl none 3 (List.map row_Rule a0.Rules)])] [] = some (.ret (.p (.sl none 1 (List.map rowB r))), []) := by
  refine Sat.fn fun Q hQ => ?_
  unfold ref03_Reached at h
  rw [call79]
  conv => arg 1; arg 7; unfold S03.c79 Tryd.f79; simp only [Option.getD_some]
  obtain ⟨v1, e_v1, h⟩ := ob h
  obtain ⟨e_v11, e_v12, e_v13, e_v14⟩ := mkz_some e_v1
  have e_v1b : boundOk (a0.States).toNat 1 = true := bnd_of e_v13 (by decide)
  have e_v1r : List.replicate (a0.States).toNat [AV.p (bv false)] = List.map (rowA rowB) v1 := by rw [e_v14]; exact rep_map (by first | rfl | simp only [go_sem, List.map_nil])
  simp only [go_sem, e_v11, e_v12, e_v1b, e_v1r]
  refine run_whileL (c := L79_0) (live := [1, 3, 4]) (by simp only [go_sem]) (M := fun (s9 : Bool × (List Bool)) => [(1, .ptr 0 0), (3, .ms 1 0 1 0 ((a0.States).toNat)), (4, .p (bv s9.1))]) (Z := fun (s9 : Bool × (List Bool)) => [.cells [.p (iv a0.States), .p (.sl none 1 (List.map rowI a0.Final)), .p (.sl none 3 (List.map row_Rule a0.Rules))], .arr 0 1 (List.map (rowA rowB) s9.2)]) (N := fun (s9 : Bool × (List Bool)) => ⟨[(3, .ms 1 0 1 0 ((a0.States).toNat))], [.cells [.p (iv a0.States), .p (.sl none 1 (List.map rowI a0.Final)), .p (.sl none 3 (List.map row_Rule a0.Rules))], .arr 0 1 (List.map (rowA rowB) s9.2)], [], none, false⟩) h rfl rfl (fun _ => rfl) ?_ ?_
  · intro s9 h
    try dsimp only at h ⊢
    obtain ⟨v2, e_v2, h⟩ := ob h
    have e_v2a := (tkM_some e_v2).1
    have e_v2b := (tkM_some e_v2).2
    simp only [go_sem, e_v2a, e_v2b]
    injection h with h; subst h
    exact Sat.ok hQ
  · intro K9 k9 s9 n9 hR9 hE9 hb9 ih9 h
    try dsimp only at h ⊢
    conv => arg 1; arg 7; unfold L79_0 loopAt S03.c79 Tryd.f79; simp only [loopIn, Option.getD_some, if_true]
    by_cases c1 : s9.1 = true
    · have h := iteT h c1
      simp only [go_sem, c1, hR9, hE9]
      refine run_rangeL (c := L79_2) (live := [1, 3, 4, 15, 16, 17]) (by simp only [go_sem]) (M := fun i12 (s12 : Bool × (List Bool)) => [(1, .ptr 0 0), (3, .ms 1 0 1 0 ((a0.States).toNat)), (4, .p (bv s12.1)), (15, .p (.sl none 3 (List.map row_Rule a0.Rules))), (16, .p (iv (a0.Rules.length : Int))), (17, .p (iv (i12 : Int)))]) (Z := fun i12 (s12 : Bool × (List Bool)) => [.cells [.p (iv a0.States), .p (.sl none 1 (List.map rowI a0.Final)), .p (.sl none 3 (List.map row_Rule a0.Rules))], .arr 0 1 (List.map (rowA rowB) s12.2)]) (N := fun (s12 : Bool × (List Bool)) => ⟨[(1, .ptr 0 0), (3, .ms 1 0 1 0 ((a0.States).toNat)), (4, .p (bv s12.1))], [.cells [.p (iv a0.States), .p (.sl none 1 (List.map rowI a0.Final)), .p (.sl none 3 (List.map row_Rule a0.Rules))], .arr 0 1 (List.map (rowA rowB) s12.2)], [], none, false⟩) h rfl rfl (fun _ _ => rfl) ?_ ?_ ?_
      · intro s12 h
        try dsimp only at h ⊢
        simp only [go_sem, hR9, hE9]
        exact ih9 (s12.1, s12.2) h
      · intro K12 s12 hb12 he12
        try dsimp only
        conv => arg 1; arg 7; unfold L79_2 loopAt S03.c79 Tryd.f79; simp only [loopIn, Option.getD_some, if_true]
        simp only [go_sem, he12]
        exact hb12
      · intro K12 k12 i12 x12 s12 n12 hR12 hE12 hb12 hx12 hi12 hw12 ih12 h
        try dsimp only at h ⊢
        conv => arg 1; arg 7; unfold L79_2 loopAt S03.c79 Tryd.f79; simp only [loopIn, Option.getD_some, if_true]
        simp only [go_sem, hx12, hi12, hw12, hR9, hE9, hR12, hE12]
        refine run_rangeL (c := L79_4) (live := [1, 3, 4, 6, 7, 15, 16, 17, 22, 23, 24]) (by simp only [go_sem]) (M := fun i13 (s13 : Bool) => [(1, .ptr 0 0), (3, .ms 1 0 1 0 ((a0.States).toNat)), (4, .p (bv s12.1)), (6, .ptr 2 0), (7, .p (bv s13)), (15, .p (.sl none 3 (List.map row_Rule a0.Rules))), (16, .p (iv (a0.Rules.length : Int))), (17, .p (iv (i12 : Int))), (22, .p (.sl none 1 (List.map rowI x12.From))), (23, .p (iv (x12.From.length : Int))), (24, .p (iv (i13 : Int)))]) (Z := fun i13 (s13 : Bool) => [.cells [.p (iv a0.States), .p (.sl none 1 (List.map rowI a0.Final)), .p (.sl none 3 (List.map row_Rule a0.Rules))], .arr 0 1 (List.map (rowA rowB) s12.2), .cells [.p (iv x12.Sym), .p (.sl none 1 (List.map rowI x12.From)), .p (iv x12.To)]]) (N := fun (s13 : Bool) => ⟨[(1, .ptr 0 0), (3, .ms 1 0 1 0 ((a0.States).toNat)), (4, .p (bv s12.1)), (6, .ptr 2 0), (7, .p (bv s13)), (15, .p (.sl none 3 (List.map row_Rule a0.Rules))), (16, .p (iv (a0.Rules.length : Int))), (17, .p (iv (i12 : Int)))], [.cells [.p (iv a0.States), .p (.sl none 1 (List.map rowI a0.Final)), .p (.sl none 3 (List.map row_Rule a0.Rules))], .arr 0 1 (List.map (rowA rowB) s12.2), .cells [.p (iv x12.Sym), .p (.sl none 1 (List.map rowI x12.From)), .p (iv x12.To)]], [], none, false⟩) h rfl rfl (fun _ _ => rfl) ?_ ?_ ?_
        · intro s13 h
          try dsimp only at h ⊢
          by_cases c2 : s13 = true
          · have h := iteT h c2
            obtain ⟨v3, e_v3, h⟩ := ob h
            obtain ⟨e_v3a, e_v3b, e_v3d⟩ := idxM_some e_v3
            by_cases c3 : v3 = true
            · have h := iteT h c3
              simp only [go_sem, c2, e_v3a, e_v3b, e_v3d, c3, hR9, hE9, hw12, hR12, hE12]
              exact ih12 (s12.1, s12.2) h
            · have h := iteF h c3
              have c3 := eq_false_of_ne_true c3
              have e_y1 : List.set (List.map (rowA rowB) s12.2) ((x12.To).toNat) [.p (bv true)] = List.map (rowA rowB) (List.set s12.2 ((x12.To).toNat) true) := map_set' (by first | rfl | simp only [go_sem, List.map_cons, List.map_nil])
              simp only [go_sem, c2, e_v3a, e_v3b, e_v3d, c3, e_y1, hR9, hE9, hw12, hR12, hE12]
              exact ih12 (true, (List.set s12.2 ((x12.To).toNat) true)) h
          · have h := iteF h c2
            have c2 := eq_false_of_ne_true c2
            simp only [go_sem, c2, hR9, hE9, hw12, hR12, hE12]
            exact ih12 (s12.1, s12.2) h
        · intro K13 s13 hb13 he13
          try dsimp only
          conv => arg 1; arg 7; unfold L79_4 loopAt S03.c79 Tryd.f79; simp only [loopIn, Option.getD_some, if_true]
          simp only [go_sem, he13]
          exact hb13
        · intro K13 k13 i13 x13 s13 n13 hR13 hE13 hb13 hx13 hi13 hw13 ih13 h
          try dsimp only at h ⊢
          conv => arg 1; arg 7; unfold L79_4 loopAt S03.c79 Tryd.f79; simp only [loopIn, Option.getD_some, if_true]
          by_cases c4 : s13 = true
          · have h := iteT h c4
            obtain ⟨v4, e_v4, h⟩ := ob h
            obtain ⟨e_v4a, e_v4b, e_v4d⟩ := idxM_some e_v4
            simp only [go_sem, hx13, hi13, hw13, c4, e_v4a, e_v4b, e_v4d, hR9, hE9, hw12, hR12, hE12, hR13, hE13]
            exact ih13 v4 h
          · have h := iteF h c4
            have c4 := eq_false_of_ne_true c4
            simp only [go_sem, hx13, hi13, hw13, c4, hR9, hE9, hw12, hR12, hE12, hR13, hE13]
            exact ih13 false h
    · have h := iteF h c1
      have c1 := eq_false_of_ne_true c1
      simp only [go_sem, c1, hR9, hE9]
      exact hb9 (false, s9.2) h

def ref03_Used (n : Nat) (a0 : Automaton) : Option (List Bool) :=
  (ref03_Reached n a0).bind fun v1 =>
  (mkz 1 a0.States a0.States false).bind fun v2 =>
  rangeL a0.Final v2 (fun k1 i1 x1 (s1 : (List Bool)) n1 =>
    (idx v1 x1).bind fun v7 =>
    (idxM ((a0.States).toNat) s1 x1).bind fun v8 =>
    n1 (List.set s1 ((x1).toNat) v7)) fun s1 =>
  whileL n (true, s1) (fun k16 (s16 : Bool × (List Bool)) n16 =>
    if s16.1 = true then
      rangeL a0.Rules (false, s16.2) (fun k21 i21 x21 (s21 : Bool × (List Bool)) n21 =>
        (idxM ((a0.States).toNat) s21.2 x21.To).bind fun v4 =>
        rangeL x21.From v4 (fun k22 i22 x22 (s22 : Bool) n22 =>
          if s22 = true then
            (idx v1 x22).bind fun v6 =>
            n22 v6
          else
            n22 false) fun s22 =>
        rangeL x21.From (s22, s21.1, s21.2) (fun k23 i23 x23 (s23 : Bool × Bool × (List Bool)) n23 =>
          if s23.1 = true then
            (idxM ((a0.States).toNat) s23.2.2 x23).bind fun v5 =>
            if v5 = true then
              n23 (true, s23.2.1, s23.2.2)
            else
              n23 (true, true, (List.set s23.2.2 ((x23).toNat) true))
          else
            n23 (false, s23.2.1, s23.2.2)) fun s23 =>
        n21 (s23.2.1, s23.2.2)) fun s21 =>
      n16 (s21.1, s21.2)
    else
      k16 (false, s16.2)) fun s16 =>
  (tkM ((a0.States).toNat) s16.2).bind fun v3 =>
  some v3
theorem spec65 (n : Nat) (a0 : Automaton) (r : List Bool) (h : ref03_Used n a0 = some r) :
    call Tryd.prog T H (.fn 65) [.p (.agg [iv a0.States, .sl none 1 (List.map rowI a0.Final), .sl none 3 (List.map row_Rule a0.Rules)])] [] = some (.ret (.p (.sl none 1 (List.map rowB r))), []) := by
  refine Sat.fn fun Q hQ => ?_
  unfold ref03_Used at h
  rw [call65]
  conv => arg 1; arg 7; unfold S03.c65 Tryd.f65; simp only [Option.getD_some]
  obtain ⟨v1, e_v1, h⟩ := ob h
  have e_v1c : call Tryd.prog T H (.fn 79) [.p (.agg [iv a0.States, .sl none 1 (List.map rowI a0.Final), .sl none 3 (List.map row_Rule a0.Rules)])] [] = some (.ret (.p (.sl none 1 (List.map rowB v1))), []) := spec79 n a0 v1 e_v1
  obtain ⟨v2, e_v2, h⟩ := ob h
  obtain ⟨e_v21, e_v22, e_v23, e_v24⟩ := mkz_some e_v2
  have e_v2b : boundOk (a0.States).toNat 1 = true := bnd_of e_v23 (by decide)
  have e_v2r : List.replicate (a0.States).toNat [AV.p (bv false)] = List.map (rowA rowB) v2 := by rw [e_v24]; exact rep_map (by first | rfl | simp only [go_sem, List.map_nil])
  simp only [go_sem, e_v1c, e_v21, e_v22, e_v2b, e_v2r]
  refine run_rangeL (c := L65_0) (live := [1, 3, 4, 21, 22, 23]) (by simp only [go_sem]) (M := fun i1 (s1 : (List Bool)) => [(1, .ptr 0 0), (3, .p (.sl none 1 (List.map rowB v1))), (4, .ms 1 0 1 0 ((a0.States).toNat)), (21, .p (.sl none 1 (List.map rowI a0.Final))), (22, .p (iv (a0.Final.length : Int))), (23, .p (iv (i1 : Int)))]) (Z := fun i1 (s1 : (List Bool)) => [.cells [.p (iv a0.States), .p (.sl none 1 (List.map rowI a0.Final)), .p (.sl none 3 (List.map row_Rule a0.Rules))], .arr 0 1 (List.map (rowA rowB) s1)]) (N := fun (s1 : (List Bool)) => ⟨[(1, .ptr 0 0), (3, .p (.sl none 1 (List.map rowB v1))), (4, .ms 1 0 1 0 ((a0.States).toNat))], [.cells [.p (iv a0.States), .p (.sl none 1 (List.map rowI a0.Final)), .p (.sl none 3 (List.map row_Rule a0.Rules))], .arr 0 1 (List.map (rowA rowB) s1)], [], none, false⟩) h rfl rfl (fun _ _ => rfl) ?_ ?_ ?_
  · intro s1 h
    try dsimp only at h ⊢
    simp only [go_sem]
    refine run_whileL (c := L65_2) (live := [1, 3, 4, 7]) (by simp only [go_sem]) (M := fun (s16 : Bool × (List Bool)) => [(1, .ptr 0 0), (3, .p (.sl none 1 (List.map rowB v1))), (4, .ms 1 0 1 0 ((a0.States).toNat)), (7, .p (bv s16.1))]) (Z := fun (s16 : Bool × (List Bool)) => [.cells [.p (iv a0.States), .p (.sl none 1 (List.map rowI a0.Final)), .p (.sl none 3 (List.map row_Rule a0.Rules))], .arr 0 1 (List.map (rowA rowB) s16.2)]) (N := fun (s16 : Bool × (List Bool)) => ⟨[(4, .ms 1 0 1 0 ((a0.States).toNat))], [.cells [.p (iv a0.States), .p (.sl none 1 (List.map rowI a0.Final)), .p (.sl none 3 (List.map row_Rule a0.Rules))], .arr 0 1 (List.map (rowA rowB) s16.2)], [], none, false⟩) h rfl rfl (fun _ => rfl) ?_ ?_
    · intro s16 h
      try dsimp only at h ⊢
      obtain ⟨v3, e_v3, h⟩ := ob h
      have e_v3a := (tkM_some e_v3).1
      have e_v3b := (tkM_some e_v3).2
      simp only [go_sem, e_v3a, e_v3b]
      injection h with h; subst h
      exact Sat.ok hQ
    · intro K16 k16 s16 n16 hR16 hE16 hb16 ih16 h
      try dsimp only at h ⊢
      conv => arg 1; arg 7; unfold L65_2 loopAt S03.c65 Tryd.f65; simp only [loopIn, Option.getD_some, if_true]
      by_cases c1 : s16.1 = true
      · have h := iteT h c1
        simp only [go_sem, c1, hR16, hE16]
        refine run_rangeL (c := L65_4) (live := [1, 3, 4, 7, 37, 38, 39]) (by simp only [go_sem]) (M := fun i21 (s21 : Bool × (List Bool)) => [(1, .ptr 0 0), (3, .p (.sl none 1 (List.map rowB v1))), (4, .ms 1 0 1 0 ((a0.States).toNat)), (7, .p (bv s21.1)), (37, .p (.sl none 3 (List.map row_Rule a0.Rules))), (38, .p (iv (a0.Rules.length : Int))), (39, .p (iv (i21 : Int)))]) (Z := fun i21 (s21 : Bool × (List Bool)) => [.cells [.p (iv a0.States), .p (.sl none 1 (List.map rowI a0.Final)), .p (.sl none 3 (List.map row_Rule a0.Rules))], .arr 0 1 (List.map (rowA rowB) s21.2)]) (N := fun (s21 : Bool × (List Bool)) => ⟨[(1, .ptr 0 0), (3, .p (.sl none 1 (List.map rowB v1))), (4, .ms 1 0 1 0 ((a0.States).toNat)), (7, .p (bv s21.1))], [.cells [.p (iv a0.States), .p (.sl none 1 (List.map rowI a0.Final)), .p (.sl none 3 (List.map row_Rule a0.Rules))], .arr 0 1 (List.map (rowA rowB) s21.2)], [], none, false⟩) h rfl rfl (fun _ _ => rfl) ?_ ?_ ?_
        · intro s21 h
          try dsimp only at h ⊢
          simp only [go_sem, hR16, hE16]
          exact ih16 (s21.1, s21.2) h
        · intro K21 s21 hb21 he21
          try dsimp only
          conv => arg 1; arg 7; unfold L65_4 loopAt S03.c65 Tryd.f65; simp only [loopIn, Option.getD_some, if_true]
          simp only [go_sem, he21]
          exact hb21
        · intro K21 k21 i21 x21 s21 n21 hR21 hE21 hb21 hx21 hi21 hw21 ih21 h
          try dsimp only at h ⊢
          conv => arg 1; arg 7; unfold L65_4 loopAt S03.c65 Tryd.f65; simp only [loopIn, Option.getD_some, if_true]
          obtain ⟨v4, e_v4, h⟩ := ob h
          obtain ⟨e_v4a, e_v4b, e_v4d⟩ := idxM_some e_v4
          simp only [go_sem, hx21, hi21, hw21, e_v4a, e_v4b, e_v4d, hR16, hE16, hR21, hE21]
          refine run_rangeL (c := L65_6) (live := [1, 3, 4, 7, 9, 10, 37, 38, 39, 49, 50, 51]) (by simp only [go_sem]) (M := fun i22 (s22 : Bool) => [(1, .ptr 0 0), (3, .p (.sl none 1 (List.map rowB v1))), (4, .ms 1 0 1 0 ((a0.States).toNat)), (7, .p (bv s21.1)), (9, .ptr 2 0), (10, .p (bv s22)), (37, .p (.sl none 3 (List.map row_Rule a0.Rules))), (38, .p (iv (a0.Rules.length : Int))), (39, .p (iv (i21 : Int))), (49, .p (.sl none 1 (List.map rowI x21.From))), (50, .p (iv (x21.From.length : Int))), (51, .p (iv (i22 : Int)))]) (Z := fun i22 (s22 : Bool) => [.cells [.p (iv a0.States), .p (.sl none 1 (List.map rowI a0.Final)), .p (.sl none 3 (List.map row_Rule a0.Rules))], .arr 0 1 (List.map (rowA rowB) s21.2), .cells [.p (iv x21.Sym), .p (.sl none 1 (List.map rowI x21.From)), .p (iv x21.To)]]) (N := fun (s22 : Bool) => ⟨[(1, .ptr 0 0), (3, .p (.sl none 1 (List.map rowB v1))), (4, .ms 1 0 1 0 ((a0.States).toNat)), (7, .p (bv s21.1)), (9, .ptr 2 0), (10, .p (bv s22)), (37, .p (.sl none 3 (List.map row_Rule a0.Rules))), (38, .p (iv (a0.Rules.length : Int))), (39, .p (iv (i21 : Int)))], [.cells [.p (iv a0.States), .p (.sl none 1 (List.map rowI a0.Final)), .p (.sl none 3 (List.map row_Rule a0.Rules))], .arr 0 1 (List.map (rowA rowB) s21.2), .cells [.p (iv x21.Sym), .p (.sl none 1 (List.map rowI x21.From)), .p (iv x21.To)]], [], none, false⟩) h rfl rfl (fun _ _ => rfl) ?_ ?_ ?_
          · intro s22 h
            try dsimp only at h ⊢
            simp only [go_sem, hR16, hE16, hw21, hR21, hE21]
            refine run_rangeL (c := L65_8) (live := [1, 3, 4, 7, 10, 37, 38, 39, 64, 65, 66]) (by simp only [go_sem]) (M := fun i23 (s23 : Bool × Bool × (List Bool)) => [(1, .ptr 0 0), (3, .p (.sl none 1 (List.map rowB v1))), (4, .ms 1 0 1 0 ((a0.States).toNat)), (7, .p (bv s23.2.1)), (10, .p (bv s23.1)), (37, .p (.sl none 3 (List.map row_Rule a0.Rules))), (38, .p (iv (a0.Rules.length : Int))), (39, .p (iv (i21 : Int))), (64, .p (.sl none 1 (List.map rowI x21.From))), (65, .p (iv (x21.From.length : Int))), (66, .p (iv (i23 : Int)))]) (Z := fun i23 (s23 : Bool × Bool × (List Bool)) => [.cells [.p (iv a0.States), .p (.sl none 1 (List.map rowI a0.Final)), .p (.sl none 3 (List.map row_Rule a0.Rules))], .arr 0 1 (List.map (rowA rowB) s23.2.2), .cells [.p (iv x21.Sym), .p (.sl none 1 (List.map rowI x21.From)), .p (iv x21.To)]]) (N := fun (s23 : Bool × Bool × (List Bool)) => ⟨[(1, .ptr 0 0), (3, .p (.sl none 1 (List.map rowB v1))), (4, .ms 1 0 1 0 ((a0.States).toNat)), (7, .p (bv s23.2.1)), (37, .p (.sl none 3 (List.map row_Rule a0.Rules))), (38, .p (iv (a0.Rules.length : Int))), (39, .p (iv (i21 : Int)))], [.cells [.p (iv a0.States), .p (.sl none 1 (List.map rowI a0.Final)), .p (.sl none 3 (List.map row_Rule a0.Rules))], .arr 0 1 (List.map (rowA rowB) s23.2.2), .cells [.p (iv x21.Sym), .p (.sl none 1 (List.map rowI x21.From)), .p (iv x21.To)]], [], none, false⟩) h rfl rfl (fun _ _ => rfl) ?_ ?_ ?_
            · intro s23 h
              try dsimp only at h ⊢
              simp only [go_sem, hR16, hE16, hw21, hR21, hE21]
              exact ih21 (s23.2.1, s23.2.2) h
            · intro K23 s23 hb23 he23
              try dsimp only
              conv => arg 1; arg 7; unfold L65_8 loopAt S03.c65 Tryd.f65; simp only [loopIn, Option.getD_some, if_true]
              simp only [go_sem, he23]
              exact hb23
            · intro K23 k23 i23 x23 s23 n23 hR23 hE23 hb23 hx23 hi23 hw23 ih23 h
              try dsimp only at h ⊢
              conv => arg 1; arg 7; unfold L65_8 loopAt S03.c65 Tryd.f65; simp only [loopIn, Option.getD_some, if_true]
              by_cases c2 : s23.1 = true
              · have h := iteT h c2
                obtain ⟨v5, e_v5, h⟩ := ob h
                obtain ⟨e_v5a, e_v5b, e_v5d⟩ := idxM_some e_v5
                by_cases c3 : v5 = true
                · have h := iteT h c3
                  simp only [go_sem, hx23, hi23, hw23, c2, e_v5a, e_v5b, e_v5d, c3, hR16, hE16, hw21, hR21, hE21, hR23, hE23]
                  exact ih23 (true, s23.2.1, s23.2.2) h
                · have h := iteF h c3
                  have c3 := eq_false_of_ne_true c3
                  have e_y1 : List.set (List.map (rowA rowB) s23.2.2) ((x23).toNat) [.p (bv true)] = List.map (rowA rowB) (List.set s23.2.2 ((x23).toNat) true) := map_set' (by first | rfl | simp only [go_sem, List.map_cons, List.map_nil])
                  simp only [go_sem, hx23, hi23, hw23, c2, e_v5a, e_v5b, e_v5d, c3, e_y1, hR16, hE16, hw21, hR21, hE21, hR23, hE23]
                  exact ih23 (true, true, (List.set s23.2.2 ((x23).toNat) true)) h
              · have h := iteF h c2
                have c2 := eq_false_of_ne_true c2
                simp only [go_sem, hx23, hi23, hw23, c2, hR16, hE16, hw21, hR21, hE21, hR23, hE23]
                exact ih23 (false, s23.2.1, s23.2.2) h
          · intro K22 s22 hb22 he22
            try dsimp only
            conv => arg 1; arg 7; unfold L65_6 loopAt S03.c65 Tryd.f65; simp only [loopIn, Option.getD_some, if_true]
            simp only [go_sem, he22]
            exact hb22
          · intro K22 k22 i22 x22 s22 n22 hR22 hE22 hb22 hx22 hi22 hw22 ih22 h
            try dsimp only at h ⊢
            conv => arg 1; arg 7; unfold L65_6 loopAt S03.c65 Tryd.f65; simp only [loopIn, Option.getD_some, if_true]
            by_cases c4 : s22 = true
            · have h := iteT h c4
              obtain ⟨v6, e_v6, h⟩ := ob h
              obtain ⟨e_v6a, e_v6b⟩ := idx_some e_v6
              simp only [go_sem, hx22, hi22, hw22, c4, e_v6a, e_v6b, hR16, hE16, hw21, hR21, hE21, hR22, hE22]
              exact ih22 v6 h
            · have h := iteF h c4
              have c4 := eq_false_of_ne_true c4
              simp only [go_sem, hx22, hi22, hw22, c4, hR16, hE16, hw21, hR21, hE21, hR22, hE22]
              exact ih22 false h
      · have h := iteF h c1
        have c1 := eq_false_of_ne_true c1
        simp only [go_sem, c1, hR16, hE16]
        exact hb16 (false, s16.2) h
  · intro K1 s1 hb1 he1
    try dsimp only
    conv => arg 1; arg 7; unfold L65_0 loopAt S03.c65 Tryd.f65; simp only [loopIn, Option.getD_some, if_true]
    simp only [go_sem, he1]
    exact hb1
  · intro K1 k1 i1 x1 s1 n1 hR1 hE1 hb1 hx1 hi1 hw1 ih1 h
    try dsimp only at h ⊢
    conv => arg 1; arg 7; unfold L65_0 loopAt S03.c65 Tryd.f65; simp only [loopIn, Option.getD_some, if_true]
    obtain ⟨v7, e_v7, h⟩ := ob h
    obtain ⟨e_v7a, e_v7b⟩ := idx_some e_v7
    obtain ⟨v8, e_v8, h⟩ := ob h
    obtain ⟨e_v8a, e_v8b, e_v8d⟩ := idxM_some e_v8
    have e_y2 : List.set (List.map (rowA rowB) s1) ((x1).toNat) [.p (bv v7)] = List.map (rowA rowB) (List.set s1 ((x1).toNat) v7) := map_set' (by first | rfl | simp only [go_sem, List.map_cons, List.map_nil])
    simp only [go_sem, hx1, hi1, hw1, e_v7a, e_v7b, e_v8a, e_v8b, e_v8d, e_y2, hR1, hE1]
    exact ih1 (List.set s1 ((x1).toNat) v7) h

def law03_one (a0 : Automaton) : Option Bool :=
  (mkz 8 a0.States a0.States 0).bind fun v1 =>
  rangeL a0.Rules v1 (fun k1 i1 x1 (s1 : (List Int)) n1 =>
    (idxM ((a0.States).toNat) s1 x1.To).bind fun v3 =>
    n1 (List.set s1 ((x1.To).toNat) (w64 (v3 + 1)))) fun s1 =>
  rangeI ((a0.States).toNat : Int) () (fun k2 i2 (s2 : Unit) n2 =>
    (idxM ((a0.States).toNat) s1 (i2 : Int)).bind fun v2 =>
    if v2 = 1 then
      n2 ()
    else
      some false) fun s2 =>
  some true
theorem spec27 (a0 : Automaton) (r : Bool) (h : law03_one a0 = some r) :
    call Tryd.prog T H (.fn 27) [.p (.agg [iv a0.States, .sl none 1 (List.map rowI a0.Final), .sl none 3 (List.map row_Rule a0.Rules)])] [] = some (.ret (.p (bv r)), []) := by
  refine Sat.fn fun Q hQ => ?_
  unfold law03_one at h
  rw [call27]
  conv => arg 1; arg 7; unfold S03.c27 Tryd.f27; simp only [Option.getD_some]
  obtain ⟨v1, e_v1, h⟩ := ob h
  obtain ⟨e_v11, e_v12, e_v13, e_v14⟩ := mkz_some e_v1
  have e_v1b : boundOk (a0.States).toNat 8 = true := bnd_of e_v13 (by decide)
  have e_v1r : List.replicate (a0.States).toNat [AV.p (iv 0)] = List.map (rowA rowI) v1 := by rw [e_v14]; exact rep_map (by first | rfl | simp only [go_sem, List.map_nil])
  simp only [go_sem, e_v11, e_v12, e_v1b, e_v1r]
  refine run_rangeL (c := L27_0) (live := [3, 12, 13, 14]) (by simp only [go_sem]) (M := fun i1 (s1 : (List Int)) => [(3, .ms 1 0 1 0 ((a0.States).toNat)), (12, .p (.sl none 3 (List.map row_Rule a0.Rules))), (13, .p (iv (a0.Rules.length : Int))), (14, .p (iv (i1 : Int)))]) (Z := fun i1 (s1 : (List Int)) => [.cells [.p (iv a0.States), .p (.sl none 1 (List.map rowI a0.Final)), .p (.sl none 3 (List.map row_Rule a0.Rules))], .arr 0 1 (List.map (rowA rowI) s1)]) (N := fun (s1 : (List Int)) => ⟨[(3, .ms 1 0 1 0 ((a0.States).toNat))], [.cells [.p (iv a0.States), .p (.sl none 1 (List.map rowI a0.Final)), .p (.sl none 3 (List.map row_Rule a0.Rules))], .arr 0 1 (List.map (rowA rowI) s1)], [], none, false⟩) h rfl rfl (fun _ _ => rfl) ?_ ?_ ?_
  · intro s1 h
    try dsimp only at h ⊢
    simp only [go_sem]
    refine run_rangeI (c := L27_2) (live := [26, 27, 28]) (by simp only [go_sem]) (M := fun i2 (s2 : Unit) => [(26, .ms 1 0 1 0 ((a0.States).toNat)), (27, .p (iv ((a0.States).toNat : Int))), (28, .p (iv (i2 : Int)))]) (Z := fun i2 (s2 : Unit) => [.cells [.p (iv a0.States), .p (.sl none 1 (List.map rowI a0.Final)), .p (.sl none 3 (List.map row_Rule a0.Rules))], .arr 0 1 (List.map (rowA rowI) s1)]) (N := fun (s2 : Unit) => ⟨[], [.cells [.p (iv a0.States), .p (.sl none 1 (List.map rowI a0.Final)), .p (.sl none 3 (List.map row_Rule a0.Rules))], .arr 0 1 (List.map (rowA rowI) s1)], [], none, false⟩) h rfl rfl (fun _ _ => rfl) ?_ ?_ ?_
    · intro s2 h
      try dsimp only at h ⊢
      simp only [go_sem]
      injection h with h; subst h
      exact Sat.ok hQ
    · intro K2 i2 s2 hb2 he2
      try dsimp only
      conv => arg 1; arg 7; unfold L27_2 loopAt S03.c27 Tryd.f27; simp only [loopIn, Option.getD_some, if_true]
      simp only [go_sem, he2]
      exact hb2
    · intro K2 k2 i2 s2 n2 hR2 hE2 hb2 hi2 hw2 ih2 h
      try dsimp only at h ⊢
      conv => arg 1; arg 7; unfold L27_2 loopAt S03.c27 Tryd.f27; simp only [loopIn, Option.getD_some, if_true]
      obtain ⟨v2, e_v2, h⟩ := ob h
      obtain ⟨e_v2a, e_v2b, e_v2d⟩ := idxM_some e_v2
      simp only [Int.toNat_natCast] at e_v2b
      simp only [Int.toNat_natCast] at e_v2d
      by_cases c1 : v2 = 1
      · have h := iteT h c1
        have c1b : (v2 != 1) = false := bneF c1
        simp only [go_sem, hi2, hw2, e_v2b, e_v2d, c1b, hR2, hE2]
        exact ih2 () h
      · have h := iteF h c1
        have c1b : (v2 != 1) = true := bneT c1
        simp only [go_sem, hi2, hw2, e_v2b, e_v2d, c1b, hR2, hE2]
        injection h with h; subst h
        exact Sat.ok hQ
  · intro K1 s1 hb1 he1
    try dsimp only
    conv => arg 1; arg 7; unfold L27_0 loopAt S03.c27 Tryd.f27; simp only [loopIn, Option.getD_some, if_true]
    simp only [go_sem, he1]
    exact hb1
  · intro K1 k1 i1 x1 s1 n1 hR1 hE1 hb1 hx1 hi1 hw1 ih1 h
    try dsimp only at h ⊢
    conv => arg 1; arg 7; unfold L27_0 loopAt S03.c27 Tryd.f27; simp only [loopIn, Option.getD_some, if_true]
    obtain ⟨v3, e_v3, h⟩ := ob h
    obtain ⟨e_v3a, e_v3b, e_v3d⟩ := idxM_some e_v3
    have e_y1 : List.set (List.map (rowA rowI) s1) ((x1.To).toNat) [.p (iv (w64 (v3 + 1)))] = List.map (rowA rowI) (List.set s1 ((x1.To).toNat) (w64 (v3 + 1))) := map_set' (by first | rfl | simp only [go_sem, List.map_cons, List.map_nil])
    simp only [go_sem, hx1, hi1, hw1, e_v3a, e_v3b, e_v3d, e_y1, hR1, hE1]
    exact ih1 (List.set s1 ((x1.To).toNat) (w64 (v3 + 1))) h

/-- a list that grows in a mutable array: the slice, the object -/
def pvL {α : Type} (k i : Nat) : List α → AV
  | [] => .nms i k
  | x :: l => .ms i (l.length + 1) k 0 (l.length + 1)
def poL {α : Type} (k : Nat) (row : α → List PV) : List α → AObj
  | [] => .dead
  | x :: l => .arr (l.length + 1) k ((x :: l).map (rowA row))
theorem pvL_ne {α : Type} {k i : Nat} {L : List α} (h : L ≠ []) : pvL k i L = .ms i L.length k 0 L.length := by
  cases L with
  | nil => exact absurd rfl h
  | cons x l => rfl
theorem poL_ne {α : Type} {k : Nat} {row : α → List PV} {L : List α} (h : L ≠ []) : poL k row L = .arr L.length k (L.map (rowA row)) := by
  cases L with
  | nil => exact absurd rfl h
  | cons x l => rfl
theorem ltV_pvL {α : Type} {k i m : Nat} (L : List α) (h : i < m) : ltV m (pvL k i L) = true := by
  cases L <;> exact decide_eq_true h
def insM {α : Type} (b : Nat) (i : Int) (x : α) (L : List α) : Option (List α) := if 0 ≤ i ∧ i ≤ L.length ∧ (L.length + 1) * b ≤ 70368744177664 then some (L.take i.toNat ++ x :: L.drop i.toNat) else none
def ref03_Sort (n : Nat) (a0 : List Rule) : Option (List Rule) :=
  rangeL a0 ([] : List Rule) (fun k1 i1 x1 (s1 : List Rule) n1 =>
    whileL n ((0 : Int), (s1.length : Int)) (fun k2 (s2 : Int × Int) n2 =>
      if s2.1 < s2.2 then
        (idx s1 (w64 (Int.tdiv (w64 (s2.1 + s2.2)) 2))).bind fun v1 =>
        (ref03_key v1).bind fun v2 =>
        (ref03_key x1).bind fun v3 =>
        (ref03_Less v2 v3).bind fun v4 =>
        if v4 < 0 then
          n2 (w64 ((w64 (Int.tdiv (w64 (s2.1 + s2.2)) 2)) + 1), s2.2)
        else
          n2 (s2.1, w64 (Int.tdiv (w64 (s2.1 + s2.2)) 2))
      else
        k2 (s2.1, s2.2)) fun s2 =>
    if s2.1 = (s1.length : Int) then
      (insM 40 s2.1 x1 s1).bind n1
    else
      (idx s1 s2.1).bind fun v5 =>
      (ref03_key v5).bind fun v6 =>
      (ref03_key x1).bind fun v7 =>
      (ref03_Less v6 v7).bind fun v8 =>
      if v8 = 0 then
        n1 s1
      else
        (insM 40 s2.1 x1 s1).bind n1) fun s1 =>
  some s1
theorem insM_some {α : Type} {b : Nat} {i : Int} {x : α} {L v : List α} (h : insM b i x L = some v) : ∃ j : Nat, i = j ∧ j ≤ L.length ∧ (L.length + 1) * b ≤ 70368744177664 ∧ v = L.take j ++ x :: L.drop j := by
  unfold insM at h
  split at h
  · rename_i hc
    injection h with h
    exact ⟨i.toNat, by omega, by omega, hc.2.2, h.symm⟩
  · cases h
theorem ins_list {α : Type} {L : List α} {z x : α} {j : Nat} (h : j ≤ L.length) : ((L ++ [z]).take (j + 1) ++ L.drop j).set j x = L.take j ++ x :: L.drop j := by
  apply List.ext_getElem?
  intro i
  have h1 : ((L ++ [z]).take (j + 1)).length = j + 1 := by rw [List.length_take, List.length_append, List.length_cons, List.length_nil]; omega
  have h2 : (L.take j).length = j := by rw [List.length_take]; omega
  rcases Nat.lt_trichotomy i j with e | e | e
  · rw [List.getElem?_set_ne (by omega), List.getElem?_append_left (by omega), List.getElem?_append_left (by omega), List.getElem?_take, if_pos (by omega), List.getElem?_take, if_pos e, List.getElem?_append_left (by omega)]
  · subst e
    rw [List.getElem?_set_self (by rw [List.length_append, h1]; omega), List.getElem?_append_right (by omega), h2, Nat.sub_self]; rfl
  · rw [List.getElem?_set_ne (by omega), List.getElem?_append_right (by omega), List.getElem?_append_right (by omega), h1, h2]
    obtain ⟨d, rfl⟩ : ∃ d, i = j + 1 + d := ⟨i - (j + 1), by omega⟩
    rw [show j + 1 + d - (j + 1) = d by omega, show j + 1 + d - j = d + 1 by omega, List.getElem?_cons_succ]
theorem copyS_ins {α : Type} {S : List AObj} {id g k : Nat} {row : α → List PV} {L : List α} {z : α} {j : Nat} (h : S[id]? = some (.arr g k ((L ++ [z]).map (rowA row)))) (hl : j ≤ L.length) :
    copyS S k (.ms id g k (j + 1) (L.length + 1 - (j + 1))) (.ms id g k j (L.length + 1 - j)) = some (L.length - j, S.set id (.arr g k (((L ++ [z]).take (j + 1) ++ L.drop j).map (rowA row)))) := by
  have e1 : lenOf (.ms id g k j (L.length + 1 - j)) = some (L.length + 1 - j) := rfl
  have e2 : cutV (min (L.length + 1 - j) (L.length + 1 - (j + 1))) (.ms id g k j (L.length + 1 - j)) = some (.ms id g k j (L.length - j)) := by
    show some (AV.ms id g k j (min (min (L.length + 1 - j) (L.length + 1 - (j + 1))) (L.length + 1 - j))) = _
    rw [show min (min (L.length + 1 - j) (L.length + 1 - (j + 1))) (L.length + 1 - j) = L.length - j by omega]
  have e3 : prowsOf S (.ms id g k j (L.length - j)) = some (k, (L.drop j).map row) := by
    have e4 : allRows (List.take (L.length - j) (List.drop j ((L ++ [z]).map (rowA row)))) = some ((L.drop j).map row) := by
      rw [← List.map_drop, ← List.map_take, List.drop_append_of_le_length hl, List.take_left' (by rw [List.length_drop])]
      exact allRows_rowA row _
    simp only [prowsOf, h, beq_self_eq_true, Bool.true_and, e4]
    rw [if_pos (by simp; omega)]
  unfold copyS
  simp only [e1, h, e2, e3, beq_self_eq_true, Bool.true_and, Bool.and_true, Bool.or_true]
  have hlen : ((L.drop j).map row).length = L.length - j := by rw [List.length_map, List.length_drop]
  rw [if_pos (by simp; omega), hlen]
  congr 4
  rw [List.drop_of_length_le (l := (L ++ [z]).map (rowA row)) (by simp; omega), List.append_nil, List.map_map, List.map_append (l₁ := (L ++ [z]).take (j + 1)), List.map_take]
  rfl
theorem spec84 (n : Nat) (σ : List AObj) (a0 : List Rule) (r : List Rule) (h : ref03_Sort n a0 = some r) (hσ : σ ≠ [] := by simp) :
    call Tryd.prog T H (.fn 84) [.p (.sl none 3 (List.map row_Rule a0))] σ = some (.ret (.p (.sl none 3 (List.map row_Rule r))), σ) := by
  have hE : σ.isEmpty = false := by cases σ with
    | nil => exact absurd rfl hσ
    | cons a b => rfl
  refine Sat.fn fun Q hQ => ?_
  unfold ref03_Sort at h
  rw [call84]
  conv => arg 1; arg 7; unfold S03.c84 Tryd.f84; simp only [Option.getD_some]
  simp only [go_sem, hE]
  refine run_rangeL (c := L84_0) (live := [3, 9, 10, 11]) (by simp only [go_sem]) (M := fun i1 (s1 : List Rule) => [(3, pvL 3 σ.length s1), (9, .p (.sl none 3 (List.map row_Rule a0))), (10, .p (iv (a0.length : Int))), (11, .p (iv (i1 : Int)))]) (Z := fun i1 s1 => σ ++ [poL 3 row_Rule s1]) (N := fun s1 => ⟨[(3, pvL 3 σ.length s1)], σ ++ [poL 3 row_Rule s1], [], none, false⟩) h rfl rfl (fun _ _ => rfl) ?_ ?_ ?_
  · intro s1 h
    try dsimp only at h ⊢
    injection h with h; subst h
    cases s1 with
    | nil =>
      simp only [go_sem, pvL, poL]
      exact Sat.ok hQ
    | cons y l =>
      simp only [go_sem, pvL, poL]
      exact Sat.ok hQ
  · intro K3 s3 hb3 he3
    try dsimp only
    conv => arg 1; arg 7; unfold L84_0 loopAt S03.c84 Tryd.f84; simp only [loopIn, Option.getD_some, if_true]
    simp only [go_sem, he3, ltV_pvL]
    exact hb3
  · intro K3 k3 i3 x3 s3 n3 hR3 hE3 hb3 hx3 hi3 hw3 ih3 h
    try dsimp only at h ⊢
    conv => arg 1; arg 7; unfold L84_0 loopAt S03.c84 Tryd.f84; simp only [loopIn, Option.getD_some, if_true]
    by_cases hnil : s3 = []
    · subst hnil
      simp only [go_sem, hx3, hi3, hw3, hR3, hE3, pvL, poL]

      refine run_whileL (c := L84_2) (live := [3, 5, 6, 7, 9, 10, 11]) (by simp only [go_sem]) (M := fun (s4 : Int × Int) => [(3, .nms σ.length 3), (5, .ptr (σ.length + 1) 0), (6, .p (iv s4.1)), (7, .p (iv s4.2)), (9, .p (.sl none 3 (List.map row_Rule a0))), (10, .p (iv (a0.length : Int))), (11, .p (iv (i3 : Int)))]) (Z := fun (s4 : Int × Int) => σ ++ [.dead, .cells [.p (iv x3.Sym), .p (.sl none 1 (List.map rowI x3.From)), .p (iv x3.To)]]) (N := fun (s4 : Int × Int) => ⟨[(3, .nms σ.length 3), (5, .ptr (σ.length + 1) 0), (6, .p (iv s4.1)), (9, .p (.sl none 3 (List.map row_Rule a0))), (10, .p (iv (a0.length : Int))), (11, .p (iv (i3 : Int)))], σ ++ [.dead, .cells [.p (iv x3.Sym), .p (.sl none 1 (List.map rowI x3.From)), .p (iv x3.To)]], [], none, false⟩) h rfl rfl (fun _ => rfl) ?_ ?_
      · intro s4 h
        try dsimp only at h ⊢
        by_cases c1 : s4.1 = (([] : List Rule).length : Int)
        · have h := iteT h c1
          obtain ⟨v, e_v, h⟩ := ob h
          obtain ⟨j, ej, hj, hb, rfl⟩ := insM_some e_v
          have hj0 : j = 0 := by simpa using hj
          subst hj0
          have ej : s4.1 = 0 := ej
          have e00 : ((0 : Int) == ((0 : Nat) : Int)) = true := rfl
          have hb1 : boundOk 1 40 = true := by decide
          have hw1 : IntKind.i64.wrap 1 = 1 := rfl
          have p1 : (0 : Int) ≤ 1 := by decide
          have p0 : (0 : Int) ≤ 0 := by decide
          have t1 : (1 : Int).toNat = 1 := rfl
          have t0 : (0 : Int).toNat = 0 := rfl
          have l1 : (0 : Int) < ((1 : Nat) : Int) := by decide
          have hc : copyS (σ ++ [.arr 1 3 [[.p (.lit (.int .i64 0)), .p (.sl none 1 []), .p (.lit (.int .i64 0))]], .cells [.p (iv x3.Sym), .p (.sl none 1 (List.map rowI x3.From)), .p (iv x3.To)]]) 3 (.ms σ.length 1 3 1 0) (.ms σ.length 1 3 0 1) = some (0, σ ++ [.arr 1 3 [[.p (.lit (.int .i64 0)), .p (.sl none 1 []), .p (.lit (.int .i64 0))]], .cells [.p (iv x3.Sym), .p (.sl none 1 (List.map rowI x3.From)), .p (iv x3.To)]]) := by
            have q := copyS_ins (S := σ ++ [.arr 1 3 [[.p (.lit (.int .i64 0)), .p (.sl none 1 []), .p (.lit (.int .i64 0))]], .cells [.p (iv x3.Sym), .p (.sl none 1 (List.map rowI x3.From)), .p (iv x3.To)]]) (id := σ.length) (g := 1) (k := 3) (row := row_Rule) (L := []) (z := Rule.mk 0 [] 0) (j := 0) (by simp only [sg_get0]; rfl) (Nat.le_refl _)
            refine q.trans ?_
            congr 2
            rw [sg_set0]; rfl
          simp only [go_sem, ej, hw3, hR3, hE3, e00, hb1, hw1, p0, p1, t0, t1, l1, hc]
          exact ih3 _ h
        · have h := iteF h c1
          obtain ⟨v1, e_v1, h⟩ := ob h
          obtain ⟨_, e2⟩ := idx_some e_v1
          rw [List.getElem?_nil] at e2
          cases e2
      · intro K4 k4 s4 n4 hR4 hE4 hb4 ih4 h
        try dsimp only at h ⊢
        conv => arg 1; arg 7; unfold L84_2 loopAt S03.c84 Tryd.f84; simp only [loopIn, Option.getD_some, if_true]
        by_cases c3 : s4.1 < s4.2
        · have h := iteT h c3
          obtain ⟨v1, e_v1, h⟩ := ob h
          obtain ⟨_, e2⟩ := idx_some e_v1
          rw [List.getElem?_nil] at e2
          cases e2
        · have h := iteF h c3
          simp only [go_sem, c3, hw3, hR3, hE3, hR4, hE4]
          exact hb4 (s4.1, s4.2) h
    · have eP : pvL 3 σ.length s3 = .ms σ.length s3.length 3 0 s3.length := pvL_ne hnil
      have eO : poL 3 row_Rule s3 = .arr s3.length 3 (List.map (rowA row_Rule) s3) := poL_ne hnil
      simp only [go_sem, hx3, hi3, hw3, hR3, hE3, eP, eO]
      refine run_whileL (c := L84_2) (live := [3, 5, 6, 7, 9, 10, 11]) (by simp only [go_sem]) (M := fun (s4 : Int × Int) => [(3, .ms σ.length s3.length 3 0 s3.length), (5, .ptr (σ.length + 1) 0), (6, .p (iv s4.1)), (7, .p (iv s4.2)), (9, .p (.sl none 3 (List.map row_Rule a0))), (10, .p (iv (a0.length : Int))), (11, .p (iv (i3 : Int)))]) (Z := fun (s4 : Int × Int) => σ ++ [.arr s3.length 3 (List.map (rowA row_Rule) s3), .cells [.p (iv x3.Sym), .p (.sl none 1 (List.map rowI x3.From)), .p (iv x3.To)]]) (N := fun (s4 : Int × Int) => ⟨[(3, .ms σ.length s3.length 3 0 s3.length), (5, .ptr (σ.length + 1) 0), (6, .p (iv s4.1)), (9, .p (.sl none 3 (List.map row_Rule a0))), (10, .p (iv (a0.length : Int))), (11, .p (iv (i3 : Int)))], σ ++ [.arr s3.length 3 (List.map (rowA row_Rule) s3), .cells [.p (iv x3.Sym), .p (.sl none 1 (List.map rowI x3.From)), .p (iv x3.To)]], [], none, false⟩) h rfl rfl (fun _ => rfl) ?_ ?_
      · intro s4 h
        try dsimp only at h ⊢
        by_cases c1 : s4.1 = (s3.length : Int)
        · have h := iteT h c1
          obtain ⟨v, e_v, h⟩ := ob h
          obtain ⟨j, ej, hj, hb, rfl⟩ := insM_some e_v
          have hb1 : boundOk (s3.length + 1) 40 = true := bnd_of hb (by decide)
          have hrow : List.map (rowA row_Rule) s3 ++ [[AV.p (PV.lit (Value.int IntKind.i64 0)), AV.p (PV.sl none 1 []), AV.p (PV.lit (Value.int IntKind.i64 0))]] = List.map (rowA row_Rule) (s3 ++ [Rule.mk 0 [] 0]) := by simp [rowA, row_Rule]
          have hw1 : IntKind.i64.wrap ((j : Int) + 1) = ((j + 1 : Nat) : Int) := by rw [wrapN (by omega) (by omega)]; omega
          have hj1 : j + 1 ≤ s3.length + 1 := by omega
          have hj2 : j ≤ s3.length + 1 := by omega
          have hj3 : j < s3.length + 1 := by omega
          have hc := copyS_ins (S := σ ++ [.arr (s3.length + 1) 3 (List.map (rowA row_Rule) (s3 ++ [Rule.mk 0 [] 0])), .cells [.p (iv x3.Sym), .p (.sl none 1 (List.map rowI x3.From)), .p (iv x3.To)]]) (id := σ.length) (g := s3.length + 1) (k := 3) (row := row_Rule) (L := s3) (z := Rule.mk 0 [] 0) (j := j) (by rw [sg_get0]; rfl) hj
          rw [sg_set0] at hc
          simp only [List.set_cons_zero] at hc
          obtain ⟨q, hq⟩ : ∃ q, ((s3 ++ [Rule.mk 0 [] 0]).take (j + 1) ++ s3.drop j)[j]? = some q := ⟨_, List.getElem?_eq_getElem (by rw [List.length_append, List.length_take, List.length_append, List.length_drop]; simp only [List.length_cons, List.length_nil]; omega)⟩
          have hget : (List.map (rowA row_Rule) ((s3 ++ [Rule.mk 0 [] 0]).take (j + 1) ++ s3.drop j))[j]? = some [.p (iv q.Sym), .p (.sl none 1 (List.map rowI q.From)), .p (iv q.To)] := by rw [List.getElem?_map, hq]; rfl
          have hset : List.set (List.map (rowA row_Rule) ((s3 ++ [Rule.mk 0 [] 0]).take (j + 1) ++ s3.drop j)) j [.p (iv x3.Sym), .p (.sl none 1 (List.map rowI x3.From)), .p (iv x3.To)] = List.map (rowA row_Rule) (s3.take j ++ x3 :: s3.drop j) := (map_set' (f := rowA row_Rule) (y := x3) rfl).trans (by rw [ins_list hj])
          have hne : s3.take j ++ x3 :: s3.drop j ≠ [] := by simp
          have hln : (s3.take j ++ x3 :: s3.drop j).length = s3.length + 1 := by rw [List.length_append, List.length_take, List.length_cons, List.length_drop]; omega
          have ih := ih3 _ h
          rw [pvL_ne hne, poL_ne hne, hln] at ih
          have e01 : ((j : Int) == (s3.length : Int)) = true := beqT (by rw [← ej]; exact c1)
          simp only [go_sem, hw3, hR3, hE3, e01, hb1, hrow, ej, hw1, hj1, hj2, hj3, hc, hget, hset, Int.toNat_natCast]
          exact ih
        · have h := iteF h c1
          obtain ⟨v5, e_v5, h⟩ := ob h
          obtain ⟨e_v5a, e_v5b⟩ := idx_some e_v5
          obtain ⟨v6, e_v6, h⟩ := ob h
          have e_v6c := spec95 v5 v6 e_v6
          obtain ⟨v7, e_v7, h⟩ := ob h
          have e_v7c := spec95 x3 v7 e_v7
          obtain ⟨v8, e_v8, h⟩ := ob h
          have e_v8c := spec94 v6 v7 v8 e_v8
          have e_g : (List.map (rowA row_Rule) s3)[s4.1.toNat]? = some [.p (iv v5.Sym), .p (.sl none 1 (List.map rowI v5.From)), .p (iv v5.To)] := by rw [List.getElem?_map, e_v5b]; rfl
          have e_lt : s4.1.toNat < s3.length := (List.getElem?_eq_some_iff.1 e_v5b).1
          have e00 : (s4.1 == (s3.length : Int)) = false := beqF c1
          by_cases c4 : v8 = 0
          · have h := iteT h c4
            have c4b : (v8 != 0) = false := bneF c4
            have ih := ih3 _ h
            rw [eP, eO] at ih
            simp only [go_sem, hw3, hR3, hE3, e00, e_v5a, e_v5b, e_g, e_lt, e_v6c, e_v7c, e_v8c, c4b]
            exact ih
          · have h := iteF h c4
            have c4b : (v8 != 0) = true := bneT c4
            obtain ⟨v, e_v, h⟩ := ob h
            obtain ⟨j, ej, hj, hb, rfl⟩ := insM_some e_v
            have hb1 : boundOk (s3.length + 1) 40 = true := bnd_of hb (by decide)
            have hrow : List.map (rowA row_Rule) s3 ++ [[AV.p (PV.lit (Value.int IntKind.i64 0)), AV.p (PV.sl none 1 []), AV.p (PV.lit (Value.int IntKind.i64 0))]] = List.map (rowA row_Rule) (s3 ++ [Rule.mk 0 [] 0]) := by simp [rowA, row_Rule]
            have hw1 : IntKind.i64.wrap ((j : Int) + 1) = ((j + 1 : Nat) : Int) := by rw [wrapN (by omega) (by omega)]; omega
            have hj1 : j + 1 ≤ s3.length + 1 := by omega
            have hj2 : j ≤ s3.length + 1 := by omega
            have hj3 : j < s3.length + 1 := by omega
            have hc := copyS_ins (S := σ ++ [.arr (s3.length + 1) 3 (List.map (rowA row_Rule) (s3 ++ [Rule.mk 0 [] 0])), .cells [.p (iv x3.Sym), .p (.sl none 1 (List.map rowI x3.From)), .p (iv x3.To)]]) (id := σ.length) (g := s3.length + 1) (k := 3) (row := row_Rule) (L := s3) (z := Rule.mk 0 [] 0) (j := j) (by rw [sg_get0]; rfl) hj
            rw [sg_set0] at hc
            simp only [List.set_cons_zero] at hc
            obtain ⟨q, hq⟩ : ∃ q, ((s3 ++ [Rule.mk 0 [] 0]).take (j + 1) ++ s3.drop j)[j]? = some q := ⟨_, List.getElem?_eq_getElem (by rw [List.length_append, List.length_take, List.length_append, List.length_drop]; simp only [List.length_cons, List.length_nil]; omega)⟩
            have hget : (List.map (rowA row_Rule) ((s3 ++ [Rule.mk 0 [] 0]).take (j + 1) ++ s3.drop j))[j]? = some [.p (iv q.Sym), .p (.sl none 1 (List.map rowI q.From)), .p (iv q.To)] := by rw [List.getElem?_map, hq]; rfl
            have hset : List.set (List.map (rowA row_Rule) ((s3 ++ [Rule.mk 0 [] 0]).take (j + 1) ++ s3.drop j)) j [.p (iv x3.Sym), .p (.sl none 1 (List.map rowI x3.From)), .p (iv x3.To)] = List.map (rowA row_Rule) (s3.take j ++ x3 :: s3.drop j) := (map_set' (f := rowA row_Rule) (y := x3) rfl).trans (by rw [ins_list hj])
            have hne : s3.take j ++ x3 :: s3.drop j ≠ [] := by simp
            have hln : (s3.take j ++ x3 :: s3.drop j).length = s3.length + 1 := by rw [List.length_append, List.length_take, List.length_cons, List.length_drop]; omega
            have ih := ih3 _ h
            rw [pvL_ne hne, poL_ne hne, hln] at ih
            simp only [go_sem, hw3, hR3, hE3, e00, e_v5a, e_v5b, e_g, e_lt, e_v6c, e_v7c, e_v8c, c4b]
            simp only [go_sem, hw3, hR3, hE3, hb1, hrow, ej, hw1, hj1, hj2, hj3, hc, hget, hset, Int.toNat_natCast]
            exact ih
      · intro K4 k4 s4 n4 hR4 hE4 hb4 ih4 h
        try dsimp only at h ⊢
        conv => arg 1; arg 7; unfold L84_2 loopAt S03.c84 Tryd.f84; simp only [loopIn, Option.getD_some, if_true]
        by_cases c3 : s4.1 < s4.2
        · have h := iteT h c3
          obtain ⟨v1, e_v1, h⟩ := ob h
          obtain ⟨e_v1a, e_v1b⟩ := idx_some e_v1
          obtain ⟨v2, e_v2, h⟩ := ob h
          have e_v2c := spec95 v1 v2 e_v2
          obtain ⟨v3, e_v3, h⟩ := ob h
          have e_v3c := spec95 x3 v3 e_v3
          obtain ⟨v4, e_v4, h⟩ := ob h
          have e_v4c := spec94 v2 v3 v4 e_v4
          have e_g : (List.map (rowA row_Rule) s3)[(w64 (Int.tdiv (w64 (s4.1 + s4.2)) 2)).toNat]? = some [.p (iv v1.Sym), .p (.sl none 1 (List.map rowI v1.From)), .p (iv v1.To)] := by rw [List.getElem?_map, e_v1b]; rfl
          have e_lt : (w64 (Int.tdiv (w64 (s4.1 + s4.2)) 2)).toNat < s3.length := (List.getElem?_eq_some_iff.1 e_v1b).1
          by_cases c4 : v4 < 0
          · have h := iteT h c4
            simp only [go_sem, c3, hw3, hR3, hE3, hR4, hE4, e_v1a, e_v1b, e_g, e_lt, e_v2c, e_v3c, e_v4c, c4]
            exact ih4 _ h
          · have h := iteF h c4
            simp only [go_sem, c3, hw3, hR3, hE3, hR4, hE4, e_v1a, e_v1b, e_g, e_lt, e_v2c, e_v3c, e_v4c, c4]
            exact ih4 _ h
        · have h := iteF h c3
          simp only [go_sem, c3, hw3, hR3, hE3, hR4, hE4]
          exact hb4 (s4.1, s4.2) h


def ref03_Keep (n : Nat) (a0 : Automaton) (a1 : List Bool) : Option Automaton :=
  (mkz 8 a0.States a0.States 0).bind fun v1 =>
  rangeL a1 (v1, 0) (fun k1 i1 x1 (s1 : (List Int) × Int) n1 =>
    if x1 = true then
      (idxM ((a0.States).toNat) s1.1 (i1 : Int)).bind fun v14 =>
      n1 ((List.set s1.1 i1 s1.2), w64 (s1.2 + 1))
    else
      n1 (s1.1, s1.2)) fun s1 =>
  rangeL a0.Final ([] : List Int) (fun k2 i2 x2 (s2 : (List Int)) n2 =>
    (idx a1 x2).bind fun v11 =>
    if v11 = true then
      (idxM ((a0.States).toNat) s1.1 x2).bind fun v12 =>
      (app 8 s2 [v12]).bind fun v13 =>
      n2 v13
    else
      n2 s2) fun s2 =>
  rangeL a0.Rules ([] : List Rule) (fun k5 i5 x5 (s5 : (List Rule)) n5 =>
    (idx a1 x5.To).bind fun v3 =>
    rangeL x5.From (v3, ([] : List Int)) (fun k6 i6 x6 (s6 : Bool × (List Int)) n6 =>
      if s6.1 = true then
        (idx a1 x6).bind fun v6 =>
        (idxM ((a0.States).toNat) s1.1 x6).bind fun v7 =>
        (app 8 s6.2 [v7]).bind fun v8 =>
        n6 (v6, v8)
      else
        (idxM ((a0.States).toNat) s1.1 x6).bind fun v9 =>
        (app 8 s6.2 [v9]).bind fun v10 =>
        n6 (false, v10)) fun s6 =>
    if s6.1 = true then
      (idxM ((a0.States).toNat) s1.1 x5.To).bind fun v4 =>
      (app 40 s5 [(Rule.mk x5.Sym s6.2 v4)]).bind fun v5 =>
      n5 v5
    else
      n5 s5) fun s5 =>
  (ref03_Sort n s5).bind fun v2 =>
  some (Automaton.mk s1.2 s2 v2)
theorem spec64 (n : Nat) (a0 : Automaton) (a1 : List Bool) (r : Automaton) (h : ref03_Keep n a0 a1 = some r) :
    call Tryd.prog T H (.fn 64) [.p (.agg [iv a0.States, .sl none 1 (List.map rowI a0.Final), .sl none 3 (List.map row_Rule a0.Rules)]), .p (.sl none 1 (List.map rowB a1))] [] = some (.ret (.p (.agg [iv r.States, .sl none 1 (List.map rowI r.Final), .sl none 3 (List.map row_Rule r.Rules)])), []) := by
  refine Sat.fn fun Q hQ => ?_
  unfold ref03_Keep at h
  rw [call64]
  conv => arg 1; arg 7; unfold S03.c64 Tryd.f64; simp only [Option.getD_some]
  obtain ⟨v1, e_v1, h⟩ := ob h
  obtain ⟨e_v11, e_v12, e_v13, e_v14⟩ := mkz_some e_v1
  have e_v1b : boundOk (a0.States).toNat 8 = true := bnd_of e_v13 (by decide)
  have e_v1r : List.replicate (a0.States).toNat [AV.p (iv 0)] = List.map (rowA rowI) v1 := by rw [e_v14]; exact rep_map (by first | rfl | simp only [go_sem, List.map_nil])
  simp only [go_sem, e_v11, e_v12, e_v1b, e_v1r]
  refine run_rangeL (c := L64_0) (live := [1, 2, 4, 5, 6, 20, 21, 22]) (by simp only [go_sem]) (M := fun i1 (s1 : (List Int) × Int) => [(1, .p (.sl none 1 (List.map rowB a1))), (2, .ptr 0 0), (4, .ptr 1 0), (5, .ms 2 0 1 0 ((a0.States).toNat)), (6, .ptr 3 0), (20, .p (.sl none 1 (List.map rowB a1))), (21, .p (iv (a1.length : Int))), (22, .p (iv (i1 : Int)))]) (Z := fun i1 (s1 : (List Int) × Int) => [.cells [.p (iv a0.States), .p (.sl none 1 (List.map rowI a0.Final)), .p (.sl none 3 (List.map row_Rule a0.Rules))], .cells [.p (iv 0), .own 1 [], .own 3 []], .arr 0 1 (List.map (rowA rowI) s1.1), .cells [.p (iv s1.2), .own 1 [], .own 3 []]]) (N := fun (s1 : (List Int) × Int) => ⟨[(1, .p (.sl none 1 (List.map rowB a1))), (2, .ptr 0 0), (4, .ptr 1 0), (5, .ms 2 0 1 0 ((a0.States).toNat)), (6, .ptr 3 0)], [.cells [.p (iv a0.States), .p (.sl none 1 (List.map rowI a0.Final)), .p (.sl none 3 (List.map row_Rule a0.Rules))], .cells [.p (iv 0), .own 1 [], .own 3 []], .arr 0 1 (List.map (rowA rowI) s1.1), .cells [.p (iv s1.2), .own 1 [], .own 3 []]], [], none, false⟩) h rfl rfl (fun _ _ => rfl) ?_ ?_ ?_
  · intro s1 h
    try dsimp only at h ⊢
    simp only [go_sem]
    refine run_rangeL (c := L64_2) (live := [1, 2, 4, 5, 6, 39, 40, 41]) (by simp only [go_sem]) (M := fun i2 (s2 : (List Int)) => [(1, .p (.sl none 1 (List.map rowB a1))), (2, .ptr 0 0), (4, .ptr 1 0), (5, .ms 2 0 1 0 ((a0.States).toNat)), (6, .ptr 3 0), (39, .p (.sl none 1 (List.map rowI a0.Final))), (40, .p (iv (a0.Final.length : Int))), (41, .p (iv (i2 : Int)))]) (Z := fun i2 (s2 : (List Int)) => [.cells [.p (iv a0.States), .p (.sl none 1 (List.map rowI a0.Final)), .p (.sl none 3 (List.map row_Rule a0.Rules))], .cells [.p (iv 0), .own 1 [], .own 3 []], .arr 0 1 (List.map (rowA rowI) s1.1), .cells [.p (iv s1.2), .own 1 (List.map rowI s2), .own 3 []]]) (N := fun (s2 : (List Int)) => ⟨[(1, .p (.sl none 1 (List.map rowB a1))), (2, .ptr 0 0), (4, .ptr 1 0), (5, .ms 2 0 1 0 ((a0.States).toNat)), (6, .ptr 3 0)], [.cells [.p (iv a0.States), .p (.sl none 1 (List.map rowI a0.Final)), .p (.sl none 3 (List.map row_Rule a0.Rules))], .cells [.p (iv 0), .own 1 [], .own 3 []], .arr 0 1 (List.map (rowA rowI) s1.1), .cells [.p (iv s1.2), .own 1 (List.map rowI s2), .own 3 []]], [], none, false⟩) h rfl rfl (fun _ _ => rfl) ?_ ?_ ?_
    · intro s2 h
      try dsimp only at h ⊢
      simp only [go_sem]
      refine run_rangeL (c := L64_4) (live := [1, 4, 5, 6, 60, 61, 62]) (by simp only [go_sem]) (M := fun i5 (s5 : (List Rule)) => [(1, .p (.sl none 1 (List.map rowB a1))), (4, .ptr 1 0), (5, .ms 2 0 1 0 ((a0.States).toNat)), (6, .ptr 3 0), (60, .p (.sl none 3 (List.map row_Rule a0.Rules))), (61, .p (iv (a0.Rules.length : Int))), (62, .p (iv (i5 : Int)))]) (Z := fun i5 (s5 : (List Rule)) => [.cells [.p (iv a0.States), .p (.sl none 1 (List.map rowI a0.Final)), .p (.sl none 3 (List.map row_Rule a0.Rules))], .cells [.p (iv 0), .own 1 [], .own 3 []], .arr 0 1 (List.map (rowA rowI) s1.1), .cells [.p (iv s1.2), .own 1 (List.map rowI s2), .own 3 (List.map row_Rule s5)]]) (N := fun (s5 : (List Rule)) => ⟨[(4, .ptr 1 0), (6, .ptr 3 0)], [.cells [.p (iv a0.States), .p (.sl none 1 (List.map rowI a0.Final)), .p (.sl none 3 (List.map row_Rule a0.Rules))], .cells [.p (iv 0), .own 1 [], .own 3 []], .arr 0 1 (List.map (rowA rowI) s1.1), .cells [.p (iv s1.2), .own 1 (List.map rowI s2), .own 3 (List.map row_Rule s5)]], [], none, false⟩) h rfl rfl (fun _ _ => rfl) ?_ ?_ ?_
      · intro s5 h
        try dsimp only at h ⊢
        obtain ⟨v2, e_v2, h⟩ := ob h
        have e_v2c : call Tryd.prog T H (.fn 84) [.p (.sl none 3 (List.map row_Rule s5))] [.cells [.p (iv a0.States), .p (.sl none 1 (List.map rowI a0.Final)), .p (.sl none 3 (List.map row_Rule a0.Rules))], .cells [.p (iv 0), .own 1 [], .own 3 []], .arr 0 1 (List.map (rowA rowI) s1.1), .cells [.p (iv s1.2), .own 1 (List.map rowI s2), .own 3 (List.map row_Rule s5)]] = some (.ret (.p (.sl none 3 (List.map row_Rule v2))), [.cells [.p (iv a0.States), .p (.sl none 1 (List.map rowI a0.Final)), .p (.sl none 3 (List.map row_Rule a0.Rules))], .cells [.p (iv 0), .own 1 [], .own 3 []], .arr 0 1 (List.map (rowA rowI) s1.1), .cells [.p (iv s1.2), .own 1 (List.map rowI s2), .own 3 (List.map row_Rule s5)]]) := by have q := spec84 n [.cells [.p (iv a0.States), .p (.sl none 1 (List.map rowI a0.Final)), .p (.sl none 3 (List.map row_Rule a0.Rules))], .cells [.p (iv 0), .own 1 [], .own 3 []], .arr 0 1 (List.map (rowA rowI) s1.1), .cells [.p (iv s1.2), .own 1 (List.map rowI s2), .own 3 (List.map row_Rule s5)]] s5 v2 e_v2; first | (simp only [go_sem] at q ⊢; exact q) | exact q
        simp only [go_sem, e_v2c]
        injection h with h; subst h
        exact Sat.ok hQ
      · intro K5 s5 hb5 he5
        try dsimp only
        conv => arg 1; arg 7; unfold L64_4 loopAt S03.c64 Tryd.f64; simp only [loopIn, Option.getD_some, if_true]
        simp only [go_sem, he5]
        exact hb5
      · intro K5 k5 i5 x5 s5 n5 hR5 hE5 hb5 hx5 hi5 hw5 ih5 h
        try dsimp only at h ⊢
        conv => arg 1; arg 7; unfold L64_4 loopAt S03.c64 Tryd.f64; simp only [loopIn, Option.getD_some, if_true]
        obtain ⟨v3, e_v3, h⟩ := ob h
        obtain ⟨e_v3a, e_v3b⟩ := idx_some e_v3
        simp only [go_sem, hx5, hi5, hw5, e_v3a, e_v3b, hR5, hE5]
        refine run_rangeL (c := L64_6) (live := [1, 4, 5, 6, 12, 13, 14, 60, 61, 62, 72, 73, 74]) (by simp only [go_sem]) (M := fun i6 (s6 : Bool × (List Int)) => [(1, .p (.sl none 1 (List.map rowB a1))), (4, .ptr 1 0), (5, .ms 2 0 1 0 ((a0.States).toNat)), (6, .ptr 3 0), (12, .ptr 4 0), (13, .p (bv s6.1)), (14, .own 1 (List.map rowI s6.2)), (60, .p (.sl none 3 (List.map row_Rule a0.Rules))), (61, .p (iv (a0.Rules.length : Int))), (62, .p (iv (i5 : Int))), (72, .p (.sl none 1 (List.map rowI x5.From))), (73, .p (iv (x5.From.length : Int))), (74, .p (iv (i6 : Int)))]) (Z := fun i6 (s6 : Bool × (List Int)) => [.cells [.p (iv a0.States), .p (.sl none 1 (List.map rowI a0.Final)), .p (.sl none 3 (List.map row_Rule a0.Rules))], .cells [.p (iv 0), .own 1 [], .own 3 []], .arr 0 1 (List.map (rowA rowI) s1.1), .cells [.p (iv s1.2), .own 1 (List.map rowI s2), .own 3 (List.map row_Rule s5)], .cells [.p (iv x5.Sym), .p (.sl none 1 (List.map rowI x5.From)), .p (iv x5.To)]]) (N := fun (s6 : Bool × (List Int)) => ⟨[(1, .p (.sl none 1 (List.map rowB a1))), (4, .ptr 1 0), (5, .ms 2 0 1 0 ((a0.States).toNat)), (6, .ptr 3 0), (12, .ptr 4 0), (13, .p (bv s6.1)), (14, .own 1 (List.map rowI s6.2)), (60, .p (.sl none 3 (List.map row_Rule a0.Rules))), (61, .p (iv (a0.Rules.length : Int))), (62, .p (iv (i5 : Int)))], [.cells [.p (iv a0.States), .p (.sl none 1 (List.map rowI a0.Final)), .p (.sl none 3 (List.map row_Rule a0.Rules))], .cells [.p (iv 0), .own 1 [], .own 3 []], .arr 0 1 (List.map (rowA rowI) s1.1), .cells [.p (iv s1.2), .own 1 (List.map rowI s2), .own 3 (List.map row_Rule s5)], .cells [.p (iv x5.Sym), .p (.sl none 1 (List.map rowI x5.From)), .p (iv x5.To)]], [], none, false⟩) h rfl rfl (fun _ _ => rfl) ?_ ?_ ?_
        · intro s6 h
          try dsimp only at h ⊢
          by_cases c1 : s6.1 = true
          · have h := iteT h c1
            obtain ⟨v4, e_v4, h⟩ := ob h
            obtain ⟨e_v4a, e_v4b, e_v4d⟩ := idxM_some e_v4
            obtain ⟨v5, e_v5, h⟩ := ob h
            have e_v5a : boundOk (s5.length + 1) 40 = true := bnd_of (by have := (app_some e_v5).1; simpa using this) (by decide)
            have e_v5b : (List.map row_Rule s5) ++ [[iv x5.Sym, .sl none 1 (List.map rowI s6.2), iv v4]] = List.map row_Rule v5 := by rw [(app_some e_v5).2]; simp [row_Rule_eq]
            simp only [go_sem, c1, e_v4a, e_v4b, e_v4d, e_v5a, e_v5b, hw5, hR5, hE5]
            exact ih5 v5 h
          · have h := iteF h c1
            have c1 := eq_false_of_ne_true c1
            simp only [go_sem, c1, hw5, hR5, hE5]
            exact ih5 s5 h
        · intro K6 s6 hb6 he6
          try dsimp only
          conv => arg 1; arg 7; unfold L64_6 loopAt S03.c64 Tryd.f64; simp only [loopIn, Option.getD_some, if_true]
          simp only [go_sem, he6]
          exact hb6
        · intro K6 k6 i6 x6 s6 n6 hR6 hE6 hb6 hx6 hi6 hw6 ih6 h
          try dsimp only at h ⊢
          conv => arg 1; arg 7; unfold L64_6 loopAt S03.c64 Tryd.f64; simp only [loopIn, Option.getD_some, if_true]
          by_cases c2 : s6.1 = true
          · have h := iteT h c2
            obtain ⟨v6, e_v6, h⟩ := ob h
            obtain ⟨e_v6a, e_v6b⟩ := idx_some e_v6
            obtain ⟨v7, e_v7, h⟩ := ob h
            obtain ⟨e_v7a, e_v7b, e_v7d⟩ := idxM_some e_v7
            obtain ⟨v8, e_v8, h⟩ := ob h
            have e_v8a : boundOk (s6.2.length + 1) 8 = true := bnd_of (by have := (app_some e_v8).1; simpa using this) (by decide)
            have e_v8b : (List.map rowI s6.2) ++ [[iv v7]] = List.map rowI v8 := by rw [(app_some e_v8).2]; simp [rowI]
            simp only [go_sem, hx6, hi6, hw6, c2, e_v6a, e_v6b, e_v7a, e_v7b, e_v7d, e_v8a, e_v8b, hw5, hR5, hE5, hR6, hE6]
            exact ih6 (v6, v8) h
          · have h := iteF h c2
            have c2 := eq_false_of_ne_true c2
            obtain ⟨v9, e_v9, h⟩ := ob h
            obtain ⟨e_v9a, e_v9b, e_v9d⟩ := idxM_some e_v9
            obtain ⟨v10, e_v10, h⟩ := ob h
            have e_v10a : boundOk (s6.2.length + 1) 8 = true := bnd_of (by have := (app_some e_v10).1; simpa using this) (by decide)
            have e_v10b : (List.map rowI s6.2) ++ [[iv v9]] = List.map rowI v10 := by rw [(app_some e_v10).2]; simp [rowI]
            simp only [go_sem, hx6, hi6, hw6, c2, e_v9a, e_v9b, e_v9d, e_v10a, e_v10b, hw5, hR5, hE5, hR6, hE6]
            exact ih6 (false, v10) h
    · intro K2 s2 hb2 he2
      try dsimp only
      conv => arg 1; arg 7; unfold L64_2 loopAt S03.c64 Tryd.f64; simp only [loopIn, Option.getD_some, if_true]
      simp only [go_sem, he2]
      exact hb2
    · intro K2 k2 i2 x2 s2 n2 hR2 hE2 hb2 hx2 hi2 hw2 ih2 h
      try dsimp only at h ⊢
      conv => arg 1; arg 7; unfold L64_2 loopAt S03.c64 Tryd.f64; simp only [loopIn, Option.getD_some, if_true]
      obtain ⟨v11, e_v11, h⟩ := ob h
      obtain ⟨e_v11a, e_v11b⟩ := idx_some e_v11
      by_cases c3 : v11 = true
      · have h := iteT h c3
        obtain ⟨v12, e_v12, h⟩ := ob h
        obtain ⟨e_v12a, e_v12b, e_v12d⟩ := idxM_some e_v12
        obtain ⟨v13, e_v13, h⟩ := ob h
        have e_v13a : boundOk (s2.length + 1) 8 = true := bnd_of (by have := (app_some e_v13).1; simpa using this) (by decide)
        have e_v13b : (List.map rowI s2) ++ [[iv v12]] = List.map rowI v13 := by rw [(app_some e_v13).2]; simp [rowI]
        simp only [go_sem, hx2, hi2, hw2, e_v11a, e_v11b, c3, e_v12a, e_v12b, e_v12d, e_v13a, e_v13b, hR2, hE2]
        exact ih2 v13 h
      · have h := iteF h c3
        have c3 := eq_false_of_ne_true c3
        simp only [go_sem, hx2, hi2, hw2, e_v11a, e_v11b, c3, hR2, hE2]
        exact ih2 s2 h
  · intro K1 s1 hb1 he1
    try dsimp only
    conv => arg 1; arg 7; unfold L64_0 loopAt S03.c64 Tryd.f64; simp only [loopIn, Option.getD_some, if_true]
    simp only [go_sem, he1]
    exact hb1
  · intro K1 k1 i1 x1 s1 n1 hR1 hE1 hb1 hx1 hi1 hw1 ih1 h
    try dsimp only at h ⊢
    conv => arg 1; arg 7; unfold L64_0 loopAt S03.c64 Tryd.f64; simp only [loopIn, Option.getD_some, if_true]
    by_cases c4 : x1 = true
    · have h := iteT h c4
      obtain ⟨v14, e_v14, h⟩ := ob h
      obtain ⟨e_v14a, e_v14b, e_v14d⟩ := idxM_some e_v14
      simp only [Int.toNat_natCast] at e_v14b
      simp only [Int.toNat_natCast] at e_v14d
      have e_y1 : List.set (List.map (rowA rowI) s1.1) i1 [.p (iv s1.2)] = List.map (rowA rowI) (List.set s1.1 i1 s1.2) := map_set' (by first | rfl | simp only [go_sem, List.map_cons, List.map_nil])
      simp only [go_sem, hx1, hi1, hw1, c4, e_v14b, e_v14d, e_y1, hR1, hE1]
      exact ih1 ((List.set s1.1 i1 s1.2), w64 (s1.2 + 1)) h
    · have h := iteF h c4
      have c4 := eq_false_of_ne_true c4
      simp only [go_sem, hx1, hi1, hw1, c4, hR1, hE1]
      exact ih1 (s1.1, s1.2) h

def ref03_Trimmed (n : Nat) (a0 : Automaton) : Option Automaton :=
  (ref03_Used n a0).bind fun v1 =>
  (ref03_Keep n a0 v1).bind fun v2 =>
  some v2
theorem spec25 (n : Nat) (a0 : Automaton) (r : Automaton) (h : ref03_Trimmed n a0 = some r) :
    call Tryd.prog T H (.fn 25) [.p (.agg [iv a0.States, .sl none 1 (List.map rowI a0.Final), .sl none 3 (List.map row_Rule a0.Rules)])] [] = some (.ret (.p (.agg [iv r.States, .sl none 1 (List.map rowI r.Final), .sl none 3 (List.map row_Rule r.Rules)])), []) := by
  refine Sat.fn fun Q hQ => ?_
  unfold ref03_Trimmed at h
  rw [call25]
  conv => arg 1; arg 7; unfold S03.c25 Tryd.f25; simp only [Option.getD_some]
  obtain ⟨v1, e_v1, h⟩ := ob h
  have e_v1c : call Tryd.prog T H (.fn 65) [.p (.agg [iv a0.States, .sl none 1 (List.map rowI a0.Final), .sl none 3 (List.map row_Rule a0.Rules)])] [] = some (.ret (.p (.sl none 1 (List.map rowB v1))), []) := spec65 n a0 v1 e_v1
  obtain ⟨v2, e_v2, h⟩ := ob h
  have e_v2c : call Tryd.prog T H (.fn 64) [.p (.agg [iv a0.States, .sl none 1 (List.map rowI a0.Final), .sl none 3 (List.map row_Rule a0.Rules)]), .p (.sl none 1 (List.map rowB v1))] [] = some (.ret (.p (.agg [iv v2.States, .sl none 1 (List.map rowI v2.Final), .sl none 3 (List.map row_Rule v2.Rules)])), []) := spec64 n a0 v1 v2 e_v2
  simp only [go_sem, e_v1c, e_v2c]
  injection h with h; subst h
  exact Sat.ok hQ

def law03_AutoSingle (n : Nat) (a0 : Alphabet) (a1 : Tree) : Option Bool :=
  if 40 < (a0.Ranks.length : Int) then
    (law03_awake n).bind fun v1 =>
    some v1
  else
    (ref01_Few n a1 400).bind fun v2 =>
    if v2 = true then
      (auto_Single n a0 a1).bind fun v3 =>
      (ref01_Valid n a0 a1).bind fun v4 =>
      if v4 = true then
        if v3.2 = 0 then
          (ref03_Valid a0 v3.1).bind fun v5 =>
          if v5 = true then
            (ref03_One v3.1).bind fun v6 =>
            if v6 = true then
              (ref03_Has n v3.1 a1).bind fun v7 =>
              if v7 = true then
                (ref03_Trimmed n v3.1).bind fun v8 =>
                if (v8.Rules.length : Int) = v8.States then
                  if (v8.Final.length : Int) = 1 then
                    (ref01_Size n a1).bind fun v9 =>
                    if v8.States ≤ v9 then
                      (law03_one v8).bind fun v10 =>
                      if v10 = true then
                        (law03_awake n).bind fun v11 =>
                        some v11
                      else
                        some false
                    else
                      some false
                  else
                    some false
                else
                  some false
              else
                some false
            else
              some false
          else
            some false
        else
          some false
      else
        if v3.2 = 1 then
          (law03_awake n).bind fun v12 =>
          some v12
        else
          some false
    else
      (law03_awake n).bind fun v13 =>
      some v13
theorem spec5 (n : Nat) (a0 : Alphabet) (a1 : Tree) (r : Bool) (h : law03_AutoSingle n a0 a1 = some r) :
    call Tryd.prog T H (.fn 5) [.p (.agg [.sl none 1 (List.map rowI a0.Ranks)]), .p (.agg [iv a1.Sym, .sl none 2 (List.map row_Tree a1.Kids)])] [] = some (.ret (.p (bv r)), []) := by
  refine Sat.fn fun Q hQ => ?_
  unfold law03_AutoSingle at h
  rw [call5]
  conv => arg 1; arg 7; unfold S03.c5 Tryd.f5; simp only [Option.getD_some]
  by_cases c1 : 40 < (a0.Ranks.length : Int)
  · have h := iteT h c1
    obtain ⟨v1, e_v1, h⟩ := ob h
    have e_v1c : call Tryd.prog T H (.fn 10) [] [] = some (.ret (.p (bv v1)), []) := spec10 n v1 e_v1
    simp only [go_sem, c1, e_v1c]
    injection h with h; subst h
    exact Sat.ok hQ
  · have h := iteF h c1
    obtain ⟨v2, e_v2, h⟩ := ob h
    have e_v2c : call Tryd.prog T H (.fn 20) [.p (.agg [iv a1.Sym, .sl none 2 (List.map row_Tree a1.Kids)]), .p (iv 400)] [] = some (.ret (.p (bv v2)), []) := spec20 n a1 400 v2 e_v2
    by_cases c2 : v2 = true
    · have h := iteT h c2
      obtain ⟨v3, e_v3, h⟩ := ob h
      have e_v3c : call Tryd.prog T H (.fn 21) [.p (.agg [.sl none 1 (List.map rowI a0.Ranks)]), .p (.agg [iv a1.Sym, .sl none 2 (List.map row_Tree a1.Kids)])] [] = some (.ret (.p (.tup [.agg [iv v3.1.States, .sl none 1 (List.map rowI v3.1.Final), .sl none 3 (List.map row_Rule v3.1.Rules)], iv v3.2])), []) := spec21 n a0 a1 v3 e_v3
      obtain ⟨v4, e_v4, h⟩ := ob h
      have e_v4c : call Tryd.prog T H (.fn 16) [.p (.agg [.sl none 1 (List.map rowI a0.Ranks)]), .p (.agg [iv a1.Sym, .sl none 2 (List.map row_Tree a1.Kids)])] [] = some (.ret (.p (bv v4)), []) := spec16 n a0 a1 v4 e_v4
      by_cases c3 : v4 = true
      · have h := iteT h c3
        by_cases c4 : v3.2 = 0
        · have h := iteT h c4
          have c4b : (v3.2 != 0) = false := bneF c4
          obtain ⟨v5, e_v5, h⟩ := ob h
          have e_v5c : call Tryd.prog T H (.fn 22) [.p (.agg [.sl none 1 (List.map rowI a0.Ranks)]), .p (.agg [iv v3.1.States, .sl none 1 (List.map rowI v3.1.Final), .sl none 3 (List.map row_Rule v3.1.Rules)])] [] = some (.ret (.p (bv v5)), []) := spec22 a0 v3.1 v5 e_v5
          by_cases c5 : v5 = true
          · have h := iteT h c5
            obtain ⟨v6, e_v6, h⟩ := ob h
            have e_v6c : call Tryd.prog T H (.fn 23) [.p (.agg [iv v3.1.States, .sl none 1 (List.map rowI v3.1.Final), .sl none 3 (List.map row_Rule v3.1.Rules)])] [] = some (.ret (.p (bv v6)), []) := spec23 v3.1 v6 e_v6
            by_cases c6 : v6 = true
            · have h := iteT h c6
              obtain ⟨v7, e_v7, h⟩ := ob h
              have e_v7c : call Tryd.prog T H (.fn 24) [.p (.agg [iv v3.1.States, .sl none 1 (List.map rowI v3.1.Final), .sl none 3 (List.map row_Rule v3.1.Rules)]), .p (.agg [iv a1.Sym, .sl none 2 (List.map row_Tree a1.Kids)])] [] = some (.ret (.p (bv v7)), []) := spec24 n v3.1 a1 v7 e_v7
              by_cases c7 : v7 = true
              · have h := iteT h c7
                obtain ⟨v8, e_v8, h⟩ := ob h
                have e_v8c : call Tryd.prog T H (.fn 25) [.p (.agg [iv v3.1.States, .sl none 1 (List.map rowI v3.1.Final), .sl none 3 (List.map row_Rule v3.1.Rules)])] [] = some (.ret (.p (.agg [iv v8.States, .sl none 1 (List.map rowI v8.Final), .sl none 3 (List.map row_Rule v8.Rules)])), []) := spec25 n v3.1 v8 e_v8
                by_cases c8 : (v8.Rules.length : Int) = v8.States
                · have h := iteT h c8
                  have c8b : ((v8.Rules.length : Int) == v8.States) = true := beqT c8
                  by_cases c9 : (v8.Final.length : Int) = 1
                  · have h := iteT h c9
                    have c9b : ((v8.Final.length : Int) == 1) = true := beqT c9
                    obtain ⟨v9, e_v9, h⟩ := ob h
                    have e_v9c : call Tryd.prog T H (.fn 26) [.p (.agg [iv a1.Sym, .sl none 2 (List.map row_Tree a1.Kids)])] [] = some (.ret (.p (iv v9)), []) := spec26 n a1 v9 e_v9
                    by_cases c10 : v8.States ≤ v9
                    · have h := iteT h c10
                      obtain ⟨v10, e_v10, h⟩ := ob h
                      have e_v10c : call Tryd.prog T H (.fn 27) [.p (.agg [iv v8.States, .sl none 1 (List.map rowI v8.Final), .sl none 3 (List.map row_Rule v8.Rules)])] [] = some (.ret (.p (bv v10)), []) := spec27 v8 v10 e_v10
                      by_cases c11 : v10 = true
                      · have h := iteT h c11
                        obtain ⟨v11, e_v11, h⟩ := ob h
                        have e_v11c : call Tryd.prog T H (.fn 10) [] [] = some (.ret (.p (bv v11)), []) := spec10 n v11 e_v11
                        simp only [go_sem, c1, e_v2c, c2, e_v3c, e_v4c, c3, c4b, e_v5c, c5, e_v6c, c6, e_v7c, c7, e_v8c, c8b, c9b, e_v9c, c10, e_v10c, c11, e_v11c]
                        injection h with h; subst h
                        exact Sat.ok hQ
                      · have h := iteF h c11
                        have c11 := eq_false_of_ne_true c11
                        simp only [go_sem, c1, e_v2c, c2, e_v3c, e_v4c, c3, c4b, e_v5c, c5, e_v6c, c6, e_v7c, c7, e_v8c, c8b, c9b, e_v9c, c10, e_v10c, c11]
                        injection h with h; subst h
                        exact Sat.ok hQ
                    · have h := iteF h c10
                      simp only [go_sem, c1, e_v2c, c2, e_v3c, e_v4c, c3, c4b, e_v5c, c5, e_v6c, c6, e_v7c, c7, e_v8c, c8b, c9b, e_v9c, c10]
                      injection h with h; subst h
                      exact Sat.ok hQ
                  · have h := iteF h c9
                    have c9b : ((v8.Final.length : Int) == 1) = false := beqF c9
                    simp only [go_sem, c1, e_v2c, c2, e_v3c, e_v4c, c3, c4b, e_v5c, c5, e_v6c, c6, e_v7c, c7, e_v8c, c8b, c9b]
                    injection h with h; subst h
                    exact Sat.ok hQ
                · have h := iteF h c8
                  have c8b : ((v8.Rules.length : Int) == v8.States) = false := beqF c8
                  simp only [go_sem, c1, e_v2c, c2, e_v3c, e_v4c, c3, c4b, e_v5c, c5, e_v6c, c6, e_v7c, c7, e_v8c, c8b]
                  injection h with h; subst h
                  exact Sat.ok hQ
              · have h := iteF h c7
                have c7 := eq_false_of_ne_true c7
                simp only [go_sem, c1, e_v2c, c2, e_v3c, e_v4c, c3, c4b, e_v5c, c5, e_v6c, c6, e_v7c, c7]
                injection h with h; subst h
                exact Sat.ok hQ
            · have h := iteF h c6
              have c6 := eq_false_of_ne_true c6
              simp only [go_sem, c1, e_v2c, c2, e_v3c, e_v4c, c3, c4b, e_v5c, c5, e_v6c, c6]
              injection h with h; subst h
              exact Sat.ok hQ
          · have h := iteF h c5
            have c5 := eq_false_of_ne_true c5
            simp only [go_sem, c1, e_v2c, c2, e_v3c, e_v4c, c3, c4b, e_v5c, c5]
            injection h with h; subst h
            exact Sat.ok hQ
        · have h := iteF h c4
          have c4b : (v3.2 != 0) = true := bneT c4
          simp only [go_sem, c1, e_v2c, c2, e_v3c, e_v4c, c3, c4b]
          injection h with h; subst h
          exact Sat.ok hQ
      · have h := iteF h c3
        have c3 := eq_false_of_ne_true c3
        by_cases c12 : v3.2 = 1
        · have h := iteT h c12
          have c12b : (v3.2 == 1) = true := beqT c12
          obtain ⟨v12, e_v12, h⟩ := ob h
          have e_v12c : call Tryd.prog T H (.fn 10) [] [] = some (.ret (.p (bv v12)), []) := spec10 n v12 e_v12
          simp only [go_sem, c1, e_v2c, c2, e_v3c, e_v4c, c3, c12b, e_v12c]
          injection h with h; subst h
          exact Sat.ok hQ
        · have h := iteF h c12
          have c12b : (v3.2 == 1) = false := beqF c12
          simp only [go_sem, c1, e_v2c, c2, e_v3c, e_v4c, c3, c12b]
          injection h with h; subst h
          exact Sat.ok hQ
    · have h := iteF h c2
      have c2 := eq_false_of_ne_true c2
      obtain ⟨v13, e_v13, h⟩ := ob h
      have e_v13c : call Tryd.prog T H (.fn 10) [] [] = some (.ret (.p (bv v13)), []) := spec10 n v13 e_v13
      simp only [go_sem, c1, e_v2c, c2, e_v13c]
      injection h with h; subst h
      exact Sat.ok hQ

end Go.AM.S03
