/- What the functions of this seat compute on the abstract machine, function by function, and the plain laws. -/
import Derived.Test.YtldbjaobpkdhnaaDoorAmEntry
import Derived.Test.YtldbjaobpkdhnaaDoorAmVal
import Derived.Test.YtldbjaobpkdhnaaDoorTab
import Derived.Test.YtldbjaobpkdhnaaDoorAmGen
import Derived.KernelRfl
set_option linter.unusedVariables false
set_option linter.unusedSimpArgs false
namespace Go.AM
open Go

theorem hOf_pr {f : FuncId} : ∀ {l : List (Nat × FH)}, (l.all fun p => p.2.pr.isNone) = true → (hOf l f).pr = none
  | [], _ => rfl
  | (k, h) :: r, ha => by
    rw [List.all_cons, Bool.and_eq_true] at ha
    unfold hOf
    split
    · have := ha.1
      cases hp : h.pr with
      | none => rfl
      | some p => simp [hp] at this
    · exact hOf_pr ha.2
section
variable {T : Tab}
theorem wt_int {n : Nat} {t : TypeId} {cs : List PV} (hd : (T.at t).d = .int .i64) (h : wt T n t cs) : ∃ i, cs = [iv i] ∧ -9223372036854775808 ≤ i ∧ i ≤ 9223372036854775807 := by
  cases n with
  | zero => exact h.elim
  | succ n =>
    unfold wt at h
    rw [hd] at h
    obtain ⟨i, rfl, h1, h2⟩ := h
    refine ⟨i, rfl, ?_⟩
    have e1 : IntKind.i64.min = -9223372036854775808 := by decide
    have e2 : IntKind.i64.max = 9223372036854775807 := by decide
    rw [e1] at h1; rw [e2] at h2
    exact ⟨h1, h2⟩
theorem wt_sl {n : Nat} {t e : TypeId} {cs : List PV} (hd : (T.at t).d = .sl e) (h : wt T n t cs) : ∃ m rows, n = m + 1 ∧ cs = [.sl none (T.at e).size rows] ∧ rows.length < 9223372036854775808 ∧ ∀ r, r ∈ rows → wt T m e r := by
  cases n with
  | zero => exact h.elim
  | succ n =>
    unfold wt at h
    rw [hd] at h
    obtain ⟨rows, rfl, h1, h2⟩ := h
    have : maxLen < 9223372036854775808 := by decide
    exact ⟨n, rows, rfl, rfl, by omega, h2⟩
theorem wt_st {n : Nat} {t : TypeId} {fs : List (Nat × TypeId)} {cs : List PV} (hd : (T.at t).d = .st fs) (h : wt T n t cs) : ∃ m, n = m + 1 ∧ cs.length = (T.at t).size ∧ ∀ f, f ∈ fs → wt T m f.2 ((cs.drop f.1).take (T.at f.2).size) := by
  cases n with
  | zero => exact h.elim
  | succ n =>
    unfold wt at h
    rw [hd] at h
    exact ⟨n, rfl, h⟩
theorem rows_map {α : Type} {row : α → List PV} {P : α → Prop} : ∀ {rows : List (List PV)}, (∀ r, r ∈ rows → ∃ x, r = row x ∧ P x) → ∃ xs : List α, rows = xs.map row ∧ ∀ x, x ∈ xs → P x
  | [], _ => ⟨[], rfl, by simp⟩
  | r :: rows, h => by
    obtain ⟨x, rfl, hx⟩ := h r (by simp)
    obtain ⟨xs, rfl, hxs⟩ := rows_map (rows := rows) (fun r' h' => h r' (List.mem_cons_of_mem _ h'))
    exact ⟨x :: xs, rfl, fun y hy => by
      rcases List.mem_cons.1 hy with rfl | hy
      · exact hx
      · exact hxs y hy⟩
/-- a slice of which the elements are known -/
theorem wt_slM {n : Nat} {t e : TypeId} {cs : List PV} {α : Type} {row : α → List PV} {P : α → Prop} (hd : (T.at t).d = .sl e) (h : wt T n t cs) (he : ∀ m r, m < n → wt T m e r → ∃ x, r = row x ∧ P x) : ∃ xs : List α, cs = [.sl none (T.at e).size (xs.map row)] ∧ xs.length < 9223372036854775808 ∧ ∀ x, x ∈ xs → P x := by
  obtain ⟨m, rows, rfl, rfl, h1, h2⟩ := wt_sl hd h
  obtain ⟨xs, rfl, hx⟩ := rows_map (row := row) (P := P) (fun r hr => he m r (by omega) (h2 r hr))
  exact ⟨xs, rfl, by simpa using h1, hx⟩
end
end Go.AM

namespace Go.AM.S03
open Go Go.Proofs Go.AM
set_option maxRecDepth 100000
set_option maxHeartbeats 4000000
set_option linter.unusedVariables false
theorem hOf_prOne {f g : FuncId} (hg : f ≠ g) : ∀ {l : List (Nat × FH)}, (l.all fun p => p.2.pr.isNone || p.1 == g) = true → (hOf l f).pr = none
  | [], _ => rfl
  | (k, h) :: r, ha => by
    rw [List.all_cons, Bool.and_eq_true] at ha
    unfold hOf
    split
    · rename_i hk
      have := ha.1
      have hk : k = f := by simpa using hk
      subst hk
      cases hp : h.pr with
      | none => rfl
      | some p => simp [hp, hg] at this
    · exact hOf_prOne hg ha.2
/-- slices.Clone for lists of int -/
def slices_Clone_Lint_int (xs : List Int) : Option (List Int) := if xs.length ≤ 1000000 then some xs else none
theorem spec68 (xs : List Int) (r : List Int) (h : slices_Clone_Lint_int xs = some r) : call Tryd.prog T H (.fn 68) [.p (.sl none 1 (xs.map rowI))] [] = some (.ret (.own 1 (r.map rowI)), []) := by
  unfold slices_Clone_Lint_int at h
  split at h
  · rename_i hl
    injection h with h; subst h
    refine call_pr (p := cloneP 1 8) (v := .own 1 (xs.map rowI)) rfl ?_ rfl []
    show (if (1 : Nat) = 1 ∧ boundOk (xs.map rowI).length 8 = true ∧ ((none : Option Bool) = some true → xs.map rowI = []) then some (AV.own 1 (xs.map rowI)) else none) = some (.own 1 (xs.map rowI))
    rw [if_pos ⟨rfl, by unfold boundOk; simp; omega, fun h => by cases h⟩]
  · cases h
noncomputable def H68 : FuncId → FH := hOf [(68, { ok := true, mv := [6], ro := true })]
theorem fnsOk68 : FnsOk Tryd.prog H68 := by
  refine fnsOk_of (by kernel_rfl) ?_
  show [(68, ({ ok := true, mv := [6], ro := true } : FH))].all (fnCheck Tryd.prog H68) = true
  simp only [List.all_cons, List.all_nil, Bool.and_true]
  kernel_rfl
theorem H68_68 : H68 68 = { ok := true, mv := [6], ro := true } := rfl
theorem prim68 : PrimOk Tryd.prog GL H68 := PrimOk.none fun f => hOf_pr (by kernel_rfl)
theorem call68 (args : List AV) (σ : List AObj) : call Tryd.prog T H68 (.fn 68) args σ = run Tryd.prog T H68 68 σ.length 0 c68 { env := envOf 0 args, σ := σ } (endK Tryd.prog T H68 68 [.tmp 2] σ.length) :=
  call_fn Tryd.func68 rfl rfl rfl _ _
theorem clone_full {nl : Option Bool} {r : List PV} {rows : List (List PV)} {σ : List AObj} (hb : boundOk (r :: rows).length 8 = true) (hn : nl ≠ some true) : call Tryd.prog T H68 (.fn 68) [.p (.sl nl 1 (r :: rows))] σ = some (.ret (.own 1 (r :: rows)), σ) := by
  have hb : boundOk (rows.length + 1) 8 = true := hb
  have key : ∀ nl : Option Bool, nl = none ∨ nl = some false → call Tryd.prog T H68 (.fn 68) [.p (.sl nl 1 (r :: rows))] σ = some (.ret (.own 1 (r :: rows)), σ) := by
    intro nl h
    refine Sat.fn fun Q hQ => ?_
    rw [call68]
    conv => arg 1; arg 7; unfold S03.c68 Tryd.f68; simp only [Option.getD_some]
    rcases h with rfl | rfl
    · simp only [go_sem, H68_68, hb]
      exact Sat.ok hQ
    · simp only [go_sem, H68_68, hb]
      exact Sat.ok hQ
  rcases nl with _ | _ | _
  · exact key _ (.inl rfl)
  · exact key _ (.inr rfl)
  · exact absurd rfl hn
theorem primOk : PrimOk Tryd.prog GL H := by
  intro f p hp args v hv hlt σ B0 w0 g Args w hI hl
  have hf : f = 68 := by
    by_cases h : f = 68
    · exact h
    · have : (hOf HL f).pr = none := hOf_prOne (g := 68) h (by kernel_rfl)
      rw [show H f = hOf HL f from rfl, this] at hp; cases hp
  subst hf
  have : p = cloneP 1 8 := by
    have e : (H 68).pr = some (cloneP 1 8) := rfl
    rw [e] at hp; injection hp with hp; exact hp.symm
  subst this
  obtain ⟨nl, rows, rfl, rfl, hb, hn⟩ := cloneP_some hv
  cases rows with
  | cons r rows =>
    exact (sim_call tabOk fnsOk68 prim68).1 68 _ σ _ σ (clone_full hb (fun h => by have := hn h; cases this)) B0 w0 g Args w hI hl
  | nil =>
    refine prim_nil (H := H68) (k := 6) (fn := Tryd.f68) tabOk fnsOk68 prim68 rfl rfl rfl rfl (s0 := { env := [(2, .own 1 []), (0, .p (.sl nl 1 []))], σ := σ }) (s1 := { env := [(3, .p (.sl nl 1 [])), (2, .own 1 []), (0, .p (.sl nl 1 []))], σ := σ }) ?_ rfl rfl ?_ rfl rfl rfl rfl ?_ hI hl
    · rfl
    · rfl
    · have fin : ∀ env, finish T (H68 68) σ.length [.tmp 2] { env := (2, .own 1 []) :: env, σ := σ } = some (.ret (.own 1 []), σ) := by
        intro env
        simp only [go_sem, H68_68, finish]
      intro b
      cases b
      · exact ⟨.normal, _, rfl, .inr ⟨rfl, _, rfl, fin _⟩⟩
      · exact ⟨.ret, _, rfl, .inl ⟨rfl, fin _⟩⟩
end Go.AM.S03

namespace Go.AM.S03
open Go Go.Proofs Go.AM
set_option maxRecDepth 100000
set_option linter.unusedVariables false
set_option maxHeartbeats 4000000


structure Tree where
  Sym : Int
  Kids : List Tree
mutual
def row_Tree : Tree → List PV
  | .mk f0 f1 => [iv f0, .sl none 2 (rows_Tree f1)]
def rows_Tree : List Tree → List (List PV)
  | [] => []
  | x :: r => row_Tree x :: rows_Tree r
end
theorem rows_Tree_map : ∀ l : List Tree, rows_Tree l = l.map row_Tree
  | [] => rfl
  | x :: r => by rw [rows_Tree, rows_Tree_map r]; rfl
theorem row_Tree_eq (x : Tree) : row_Tree x = [iv x.Sym, .sl none 2 (List.map row_Tree x.Kids)] := by
  cases x; rw [row_Tree]; simp only [rows_Tree_map]
attribute [go_sem] row_Tree_eq
structure Rule where
  Sym : Int
  From : List Int
  To : Int
def row_Rule (x : Rule) : List PV := [iv x.Sym, .sl none 1 (List.map rowI x.From), iv x.To]
theorem row_Rule_eq (x : Rule) : row_Rule x = [iv x.Sym, .sl none 1 (List.map rowI x.From), iv x.To] := rfl
attribute [go_sem] row_Rule_eq
structure Automaton where
  States : Int
  Final : List Int
  Rules : List Rule
def row_Automaton (x : Automaton) : List PV := [iv x.States, .sl none 1 (List.map rowI x.Final), .sl none 3 (List.map row_Rule x.Rules)]
theorem row_Automaton_eq (x : Automaton) : row_Automaton x = [iv x.States, .sl none 1 (List.map rowI x.Final), .sl none 3 (List.map row_Rule x.Rules)] := rfl
attribute [go_sem] row_Automaton_eq
structure Alphabet where
  Ranks : List Int
def row_Alphabet (x : Alphabet) : List PV := [.sl none 1 (List.map rowI x.Ranks)]
theorem row_Alphabet_eq (x : Alphabet) : row_Alphabet x = [.sl none 1 (List.map rowI x.Ranks)] := rfl
attribute [go_sem] row_Alphabet_eq
def pow10L : List Int := [1, 10, 100, 1000, 10000, 100000, 1000000, 10000000, 100000000, 1000000000, 10000000000, 100000000000, 1000000000000, 10000000000000, 100000000000000, 1000000000000000, 10000000000000000, 100000000000000000, 1000000000000000000, 10000000000000000000]
theorem T_gl0 : globOf T.gl 0 = some [.sl none 1 [[iv 0], [iv 2]]] := rfl
attribute [go_sem] T_gl0
theorem T_gl1 : globOf T.gl 1 = some [.lit (.int .u64 1), .lit (.int .u64 10), .lit (.int .u64 100), .lit (.int .u64 1000), .lit (.int .u64 10000), .lit (.int .u64 100000), .lit (.int .u64 1000000), .lit (.int .u64 10000000), .lit (.int .u64 100000000), .lit (.int .u64 1000000000), .lit (.int .u64 10000000000), .lit (.int .u64 100000000000), .lit (.int .u64 1000000000000), .lit (.int .u64 10000000000000), .lit (.int .u64 100000000000000), .lit (.int .u64 1000000000000000), .lit (.int .u64 10000000000000000), .lit (.int .u64 100000000000000000), .lit (.int .u64 1000000000000000000), .lit (.int .u64 10000000000000000000)] := rfl
attribute [go_sem] T_gl1
def ref01_count : Nat → Tree → Int → Option Int
  | 0, _, _ => none
  | n + 1, a0, a1 =>
    rangeL a0.Kids 1 (fun k1 i1 x1 (s1 : Int) n1 =>
      if s1 ≤ a1 then
        (ref01_count n x1 (w64 (a1 - s1))).bind fun v1 =>
        n1 (w64 (s1 + v1))
      else
        n1 s1) fun s1 =>
    some s1
theorem spec59 : ∀ (n : Nat), (∀ (a0 : Tree) (a1 : Int) (r : Int), ref01_count n a0 a1 = some r →
    call Tryd.prog T H (.fn 59) [.p (.agg [iv a0.Sym, .sl none 2 (List.map row_Tree a0.Kids)]), .p (iv a1)] [] = some (.ret (.p (iv r)), [])) := by
  intro n
  induction n with
  | zero => intro a0 a1 r h; cases h
  | succ n ih =>
    intro a0 a1 r h
    refine Sat.fn fun Q hQ => ?_
    rw [ref01_count] at h
    rw [call59]
    conv => arg 1; arg 7; unfold S03.c59 Tryd.f59; simp only [Option.getD_some]
    simp only [go_sem]
    refine run_rangeL (c := L59_0) (live := [1, 5, 9, 10, 11]) (by simp only [go_sem]) (M := fun i1 (s1 : Int) => [(1, .p (iv a1)), (5, .p (iv s1)), (9, .p (.sl none 2 (List.map row_Tree a0.Kids))), (10, .p (iv (a0.Kids.length : Int))), (11, .p (iv (i1 : Int)))]) (Z := fun i1 (s1 : Int) => [.cells [.p (iv a0.Sym), .p (.sl none 2 (List.map row_Tree a0.Kids))]]) (N := fun (s1 : Int) => ⟨[(5, .p (iv s1))], [.cells [.p (iv a0.Sym), .p (.sl none 2 (List.map row_Tree a0.Kids))]], [], none, false⟩) h rfl rfl (fun _ _ => rfl) ?_ ?_ ?_
    · intro s1 h
      try dsimp only at h ⊢
      simp only [go_sem]
      injection h with h; subst h
      exact Sat.ok hQ
    · intro K1 s1 hb1 he1
      try dsimp only
      conv => arg 1; arg 7; unfold L59_0 loopAt S03.c59 Tryd.f59; simp only [loopIn, Option.getD_some, if_true]
      simp only [go_sem, he1]
      exact hb1
    · intro K1 k1 i1 x1 s1 n1 hR1 hE1 hb1 hx1 hi1 hw1 ih1 h
      try dsimp only at h ⊢
      conv => arg 1; arg 7; unfold L59_0 loopAt S03.c59 Tryd.f59; simp only [loopIn, Option.getD_some, if_true]
      by_cases c1 : s1 ≤ a1
      · have h := iteT h c1
        obtain ⟨v1, e_v1, h⟩ := ob h
        have e_v1c : call Tryd.prog T H (.fn 59) [.p (.agg [iv x1.Sym, .sl none 2 (List.map row_Tree x1.Kids)]), .p (iv (w64 (a1 - s1)))] [] = some (.ret (.p (iv v1)), []) := ih x1 (w64 (a1 - s1)) v1 e_v1
        simp only [go_sem, hx1, hi1, hw1, c1, e_v1c, hR1, hE1]
        exact ih1 (w64 (s1 + v1)) h
      · have h := iteF h c1
        simp only [go_sem, hx1, hi1, hw1, c1, hR1, hE1]
        exact ih1 s1 h

def ref01_Few (n : Nat) (a0 : Tree) (a1 : Int) : Option Bool :=
  (ref01_count n a0 a1).bind fun v1 =>
  some (decide (v1 ≤ a1))
theorem spec20 (n : Nat) (a0 : Tree) (a1 : Int) (r : Bool) (h : ref01_Few n a0 a1 = some r) :
    call Tryd.prog T H (.fn 20) [.p (.agg [iv a0.Sym, .sl none 2 (List.map row_Tree a0.Kids)]), .p (iv a1)] [] = some (.ret (.p (bv r)), []) := by
  refine Sat.fn fun Q hQ => ?_
  unfold ref01_Few at h
  rw [call20]
  conv => arg 1; arg 7; unfold S03.c20 Tryd.f20; simp only [Option.getD_some]
  obtain ⟨v1, e_v1, h⟩ := ob h
  have e_v1c : call Tryd.prog T H (.fn 59) [.p (.agg [iv a0.Sym, .sl none 2 (List.map row_Tree a0.Kids)]), .p (iv a1)] [] = some (.ret (.p (iv v1)), []) := spec59 n a0 a1 v1 e_v1
  simp only [go_sem, e_v1c]
  injection h with h; subst h
  exact Sat.ok hQ

def ref03_Few (a0 : Alphabet) (a1 : Int) (a2 : Int) (a3 : List Automaton) : Option Bool :=
  rangeL a3 () (fun k3 i3 x3 (s3 : Unit) n3 =>
    if a2 < (x3.Final.length : Int) then
      some false
    else
      if a2 < (x3.Rules.length : Int) then
        some false
      else
        if a1 < x3.States then
          if x3.States ≤ 300 then
            some false
          else
            rangeL x3.Rules () (fun k4 i4 x4 (s4 : Unit) n4 =>
              if 10 < (x4.From.length : Int) then
                some false
              else
                n4 ()) fun s4 =>
            n3 ()
        else
          rangeL x3.Rules () (fun k5 i5 x5 (s5 : Unit) n5 =>
            if 10 < (x5.From.length : Int) then
              some false
            else
              n5 ()) fun s5 =>
          n3 ()) fun s3 =>
  some (decide ((a0.Ranks.length : Int) ≤ 40))
theorem spec45 (a0 : Alphabet) (a1 : Int) (a2 : Int) (a3 : List Automaton) (r : Bool) (h : ref03_Few a0 a1 a2 a3 = some r) :
    call Tryd.prog T H (.fn 45) [.p (.agg [.sl none 1 (List.map rowI a0.Ranks)]), .p (iv a1), .p (iv a2), .p (.sl none 3 (List.map row_Automaton a3))] [] = some (.ret (.p (bv r)), []) := by
  refine Sat.fn fun Q hQ => ?_
  unfold ref03_Few at h
  rw [call45]
  conv => arg 1; arg 7; unfold S03.c45 Tryd.f45; simp only [Option.getD_some]
  simp only [go_sem]
  refine run_rangeL (c := L45_0) (live := [1, 2, 4, 13, 14, 15]) (by simp only [go_sem]) (M := fun i3 (s3 : Unit) => [(1, .p (iv a1)), (2, .p (iv a2)), (4, .ptr 0 0), (13, .p (.sl none 3 (List.map row_Automaton a3))), (14, .p (iv (a3.length : Int))), (15, .p (iv (i3 : Int)))]) (Z := fun i3 (s3 : Unit) => [.cells [.p (.sl none 1 (List.map rowI a0.Ranks))]]) (N := fun (s3 : Unit) => ⟨[(4, .ptr 0 0)], [.cells [.p (.sl none 1 (List.map rowI a0.Ranks))]], [], none, false⟩) h rfl rfl (fun _ _ => rfl) ?_ ?_ ?_
  · intro s3 h
    try dsimp only at h ⊢
    simp only [go_sem]
    injection h with h; subst h
    exact Sat.ok hQ
  · intro K3 s3 hb3 he3
    try dsimp only
    conv => arg 1; arg 7; unfold L45_0 loopAt S03.c45 Tryd.f45; simp only [loopIn, Option.getD_some, if_true]
    simp only [go_sem, he3]
    exact hb3
  · intro K3 k3 i3 x3 s3 n3 hR3 hE3 hb3 hx3 hi3 hw3 ih3 h
    try dsimp only at h ⊢
    conv => arg 1; arg 7; unfold L45_0 loopAt S03.c45 Tryd.f45; simp only [loopIn, Option.getD_some, if_true]
    by_cases c1 : a2 < (x3.Final.length : Int)
    · have h := iteT h c1
      simp only [go_sem, hx3, hi3, hw3, c1, hR3, hE3]
      injection h with h; subst h
      exact Sat.ok hQ
    · have h := iteF h c1
      by_cases c2 : a2 < (x3.Rules.length : Int)
      · have h := iteT h c2
        simp only [go_sem, hx3, hi3, hw3, c1, c2, hR3, hE3]
        injection h with h; subst h
        exact Sat.ok hQ
      · have h := iteF h c2
        by_cases c3 : a1 < x3.States
        · have h := iteT h c3
          by_cases c4 : x3.States ≤ 300
          · have h := iteT h c4
            simp only [go_sem, hx3, hi3, hw3, c1, c2, c3, c4, hR3, hE3]
            injection h with h; subst h
            exact Sat.ok hQ
          · have h := iteF h c4
            simp only [go_sem, hx3, hi3, hw3, c1, c2, c3, c4, hR3, hE3]
            refine run_rangeL (c := L45_2) (live := [1, 2, 4, 13, 14, 15, 43, 44, 45]) (by simp only [go_sem]) (M := fun i4 (s4 : Unit) => [(1, .p (iv a1)), (2, .p (iv a2)), (4, .ptr 0 0), (13, .p (.sl none 3 (List.map row_Automaton a3))), (14, .p (iv (a3.length : Int))), (15, .p (iv (i3 : Int))), (43, .p (.sl none 3 (List.map row_Rule x3.Rules))), (44, .p (iv (x3.Rules.length : Int))), (45, .p (iv (i4 : Int)))]) (Z := fun i4 (s4 : Unit) => [.cells [.p (.sl none 1 (List.map rowI a0.Ranks))], .cells [.p (iv x3.States), .p (.sl none 1 (List.map rowI x3.Final)), .p (.sl none 3 (List.map row_Rule x3.Rules))]]) (N := fun (s4 : Unit) => ⟨[(1, .p (iv a1)), (2, .p (iv a2)), (4, .ptr 0 0), (13, .p (.sl none 3 (List.map row_Automaton a3))), (14, .p (iv (a3.length : Int))), (15, .p (iv (i3 : Int)))], [.cells [.p (.sl none 1 (List.map rowI a0.Ranks))], .cells [.p (iv x3.States), .p (.sl none 1 (List.map rowI x3.Final)), .p (.sl none 3 (List.map row_Rule x3.Rules))]], [], none, false⟩) h rfl rfl (fun _ _ => rfl) ?_ ?_ ?_
            · intro s4 h
              try dsimp only at h ⊢
              simp only [go_sem, hw3, hR3, hE3]
              exact ih3 () h
            · intro K4 s4 hb4 he4
              try dsimp only
              conv => arg 1; arg 7; unfold L45_2 loopAt S03.c45 Tryd.f45; simp only [loopIn, Option.getD_some, if_true]
              simp only [go_sem, he4]
              exact hb4
            · intro K4 k4 i4 x4 s4 n4 hR4 hE4 hb4 hx4 hi4 hw4 ih4 h
              try dsimp only at h ⊢
              conv => arg 1; arg 7; unfold L45_2 loopAt S03.c45 Tryd.f45; simp only [loopIn, Option.getD_some, if_true]
              by_cases c5 : 10 < (x4.From.length : Int)
              · have h := iteT h c5
                simp only [go_sem, hx4, hi4, hw4, c5, hw3, hR3, hE3, hR4, hE4]
                injection h with h; subst h
                exact Sat.ok hQ
              · have h := iteF h c5
                simp only [go_sem, hx4, hi4, hw4, c5, hw3, hR3, hE3, hR4, hE4]
                exact ih4 () h
        · have h := iteF h c3
          simp only [go_sem, hx3, hi3, hw3, c1, c2, c3, hR3, hE3]
          refine run_rangeL (c := L45_2) (live := [1, 2, 4, 13, 14, 15, 43, 44, 45]) (by simp only [go_sem]) (M := fun i5 (s5 : Unit) => [(1, .p (iv a1)), (2, .p (iv a2)), (4, .ptr 0 0), (13, .p (.sl none 3 (List.map row_Automaton a3))), (14, .p (iv (a3.length : Int))), (15, .p (iv (i3 : Int))), (43, .p (.sl none 3 (List.map row_Rule x3.Rules))), (44, .p (iv (x3.Rules.length : Int))), (45, .p (iv (i5 : Int)))]) (Z := fun i5 (s5 : Unit) => [.cells [.p (.sl none 1 (List.map rowI a0.Ranks))], .cells [.p (iv x3.States), .p (.sl none 1 (List.map rowI x3.Final)), .p (.sl none 3 (List.map row_Rule x3.Rules))]]) (N := fun (s5 : Unit) => ⟨[(1, .p (iv a1)), (2, .p (iv a2)), (4, .ptr 0 0), (13, .p (.sl none 3 (List.map row_Automaton a3))), (14, .p (iv (a3.length : Int))), (15, .p (iv (i3 : Int)))], [.cells [.p (.sl none 1 (List.map rowI a0.Ranks))], .cells [.p (iv x3.States), .p (.sl none 1 (List.map rowI x3.Final)), .p (.sl none 3 (List.map row_Rule x3.Rules))]], [], none, false⟩) h rfl rfl (fun _ _ => rfl) ?_ ?_ ?_
          · intro s5 h
            try dsimp only at h ⊢
            simp only [go_sem, hw3, hR3, hE3]
            exact ih3 () h
          · intro K5 s5 hb5 he5
            try dsimp only
            conv => arg 1; arg 7; unfold L45_2 loopAt S03.c45 Tryd.f45; simp only [loopIn, Option.getD_some, if_true]
            simp only [go_sem, he5]
            exact hb5
          · intro K5 k5 i5 x5 s5 n5 hR5 hE5 hb5 hx5 hi5 hw5 ih5 h
            try dsimp only at h ⊢
            conv => arg 1; arg 7; unfold L45_2 loopAt S03.c45 Tryd.f45; simp only [loopIn, Option.getD_some, if_true]
            by_cases c6 : 10 < (x5.From.length : Int)
            · have h := iteT h c6
              simp only [go_sem, hx5, hi5, hw5, c6, hw3, hR3, hE3, hR5, hE5]
              injection h with h; subst h
              exact Sat.ok hQ
            · have h := iteF h c6
              simp only [go_sem, hx5, hi5, hw5, c6, hw3, hR3, hE3, hR5, hE5]
              exact ih5 () h

def law03_few (n : Nat) (a0 : Alphabet) (a1 : Automaton) (a2 : List Tree) : Option Bool :=
  rangeL a2 () (fun k1 i1 x1 (s1 : Unit) n1 =>
    (ref01_Few n x1 400).bind fun v2 =>
    if v2 = true then
      n1 ()
    else
      some false) fun s1 =>
  (ref03_Few a0 300 60 [a1]).bind fun v1 =>
  some v1
theorem spec9 (n : Nat) (a0 : Alphabet) (a1 : Automaton) (a2 : List Tree) (r : Bool) (h : law03_few n a0 a1 a2 = some r) :
    call Tryd.prog T H (.fn 9) [.p (.agg [.sl none 1 (List.map rowI a0.Ranks)]), .p (.agg [iv a1.States, .sl none 1 (List.map rowI a1.Final), .sl none 3 (List.map row_Rule a1.Rules)]), .p (.sl none 2 (List.map row_Tree a2))] [] = some (.ret (.p (bv r)), []) := by
  refine Sat.fn fun Q hQ => ?_
  unfold law03_few at h
  rw [call9]
  conv => arg 1; arg 7; unfold S03.c9 Tryd.f9; simp only [Option.getD_some]
  simp only [go_sem]
  refine run_rangeL (c := L9_0) (live := [3, 4, 9, 10, 11]) (by simp only [go_sem]) (M := fun i1 (s1 : Unit) => [(3, .ptr 0 0), (4, .ptr 1 0), (9, .p (.sl none 2 (List.map row_Tree a2))), (10, .p (iv (a2.length : Int))), (11, .p (iv (i1 : Int)))]) (Z := fun i1 (s1 : Unit) => [.cells [.p (.sl none 1 (List.map rowI a0.Ranks))], .cells [.p (iv a1.States), .p (.sl none 1 (List.map rowI a1.Final)), .p (.sl none 3 (List.map row_Rule a1.Rules))]]) (N := fun (s1 : Unit) => ⟨[(3, .ptr 0 0), (4, .ptr 1 0)], [.cells [.p (.sl none 1 (List.map rowI a0.Ranks))], .cells [.p (iv a1.States), .p (.sl none 1 (List.map rowI a1.Final)), .p (.sl none 3 (List.map row_Rule a1.Rules))]], [], none, false⟩) h rfl rfl (fun _ _ => rfl) ?_ ?_ ?_
  · intro s1 h
    try dsimp only at h ⊢
    obtain ⟨v1, e_v1, h⟩ := ob h
    have e_v1c : call Tryd.prog T H (.fn 45) [.p (.agg [.sl none 1 (List.map rowI a0.Ranks)]), .p (iv 300), .p (iv 60), .p (.sl none 3 [[iv a1.States, .sl none 1 (List.map rowI a1.Final), .sl none 3 (List.map row_Rule a1.Rules)]])] [] = some (.ret (.p (bv v1)), []) := by have q := spec45 a0 300 60 [a1] v1 e_v1; simp only [List.map_cons, List.map_nil, row_Automaton_eq] at q ⊢; exact q
    simp only [go_sem, e_v1c]
    injection h with h; subst h
    exact Sat.ok hQ
  · intro K1 s1 hb1 he1
    try dsimp only
    conv => arg 1; arg 7; unfold L9_0 loopAt S03.c9 Tryd.f9; simp only [loopIn, Option.getD_some, if_true]
    simp only [go_sem, he1]
    exact hb1
  · intro K1 k1 i1 x1 s1 n1 hR1 hE1 hb1 hx1 hi1 hw1 ih1 h
    try dsimp only at h ⊢
    conv => arg 1; arg 7; unfold L9_0 loopAt S03.c9 Tryd.f9; simp only [loopIn, Option.getD_some, if_true]
    obtain ⟨v2, e_v2, h⟩ := ob h
    have e_v2c : call Tryd.prog T H (.fn 20) [.p (.agg [iv x1.Sym, .sl none 2 (List.map row_Tree x1.Kids)]), .p (iv 400)] [] = some (.ret (.p (bv v2)), []) := spec20 n x1 400 v2 e_v2
    by_cases c1 : v2 = true
    · have h := iteT h c1
      simp only [go_sem, hx1, hi1, hw1, e_v2c, c1, hR1, hE1]
      exact ih1 () h
    · have h := iteF h c1
      have c1 := eq_false_of_ne_true c1
      simp only [go_sem, hx1, hi1, hw1, e_v2c, c1, hR1, hE1]
      injection h with h; subst h
      exact Sat.ok hQ

def tree_ValidAlphabet_1 (a0 : Int) : Option Bool :=
  if a0 < 0 then
    some true
  else
    some (decide (3 < a0))
theorem spec90 (a0 : Int) (r : Bool) (h : tree_ValidAlphabet_1 a0 = some r) :
    call Tryd.prog T H (.fn 90) [.p (iv a0)] [] = some (.ret (.p (bv r)), []) := by
  refine Sat.fn fun Q hQ => ?_
  unfold tree_ValidAlphabet_1 at h
  rw [call90]
  conv => arg 1; arg 7; unfold S03.c90 Tryd.f90; simp only [Option.getD_some]
  by_cases c1 : a0 < 0
  · have h := iteT h c1
    simp only [go_sem, c1]
    injection h with h; subst h
    exact Sat.ok hQ
  · have h := iteF h c1
    simp only [go_sem, c1]
    injection h with h; subst h
    exact Sat.ok hQ

def tree_ValidAlphabet (a0 : Alphabet) : Option Bool :=
  if (a0.Ranks.length : Int) ≤ 12 then
    jn (fun (u1 : Int) =>
      some (!(decide (0 ≤ u1)))) fun j1 =>
    rangeL a0.Ranks () (fun k1 i1 x1 (s1 : Unit) n1 =>
      (tree_ValidAlphabet_1 x1).bind fun v1 =>
      if v1 = true then
        j1 (i1 : Int)
      else
        n1 ()) fun s1 =>
    j1 (-1)
  else
    some false
theorem spec74 (a0 : Alphabet) (r : Bool) (h : tree_ValidAlphabet a0 = some r) :
    call Tryd.prog T H (.fn 74) [.p (.agg [.sl none 1 (List.map rowI a0.Ranks)])] [] = some (.ret (.p (bv r)), []) := by
  refine Sat.fn fun Q hQ => ?_
  unfold tree_ValidAlphabet at h
  rw [call74]
  conv => arg 1; arg 7; unfold S03.c74 Tryd.f74; simp only [Option.getD_some]
  by_cases c1 : (a0.Ranks.length : Int) ≤ 12
  · have h := iteT h c1
    simp only [go_sem, c1]
    refine Sat.callc ?_
    rw [call55]
    conv => arg 1; arg 7; unfold S03.c55 Tryd.f55; simp only [Option.getD_some]
    simp only [go_sem]
    refine Sat.callj (V := fun (u1 : Int) => .p (iv u1)) (Z := fun (u1 : Int) => [.cells [.p (.sl none 1 (List.map rowI a0.Ranks))]]) h ?_ ?_
    · intro u1 h
      try dsimp only at h ⊢
      simp only [go_sem]
      refine Sat.ok ?_
      dsimp only
      simp only [go_sem]
      injection h with h; subst h
      exact Sat.ok hQ
    · intro j1 h
      rw [call81]
      conv => arg 1; arg 7; unfold S03.c81 Tryd.f81; simp only [Option.getD_some]
      simp only [go_sem]
      refine run_rangeL (c := L81_0) (live := [0, 1, 7, 8]) (by simp only [go_sem]) (M := fun i1 (s1 : Unit) => [(0, .p (.sl none 1 (List.map rowI a0.Ranks))), (1, .p (.fn 90)), (7, .p (iv (a0.Ranks.length : Int))), (8, .p (iv (i1 : Int)))]) (Z := fun i1 (s1 : Unit) => [.cells [.p (.sl none 1 (List.map rowI a0.Ranks))]]) (N := fun (s1 : Unit) => ⟨[], [.cells [.p (.sl none 1 (List.map rowI a0.Ranks))]], [], none, false⟩) h rfl rfl (fun _ _ => rfl) ?_ ?_ ?_
      · intro s1 h
        try dsimp only at h ⊢
        simp only [go_sem]
        exact Sat.ok ⟨(-1), rfl, h⟩
      · intro K1 s1 hb1 he1
        try dsimp only
        conv => arg 1; arg 7; unfold L81_0 loopAt S03.c81 Tryd.f81; simp only [loopIn, Option.getD_some, if_true]
        simp only [go_sem, he1]
        exact hb1
      · intro K1 k1 i1 x1 s1 n1 hR1 hE1 hb1 hx1 hi1 hw1 ih1 h
        try dsimp only at h ⊢
        conv => arg 1; arg 7; unfold L81_0 loopAt S03.c81 Tryd.f81; simp only [loopIn, Option.getD_some, if_true]
        obtain ⟨v1, e_v1, h⟩ := ob h
        have e_v1c : call Tryd.prog T H (.fn 90) [.p (iv x1)] [] = some (.ret (.p (bv v1)), []) := spec90 x1 v1 e_v1
        by_cases c2 : v1 = true
        · have h := iteT h c2
          simp only [go_sem, hx1, hi1, hw1, e_v1c, c2, hR1, hE1]
          exact Sat.ok ⟨(i1 : Int), rfl, h⟩
        · have h := iteF h c2
          have c2 := eq_false_of_ne_true c2
          simp only [go_sem, hx1, hi1, hw1, e_v1c, c2, hR1, hE1]
          exact ih1 () h
  · have h := iteF h c1
    simp only [go_sem, c1]
    injection h with h; subst h
    exact Sat.ok hQ

def auto_Valid (a0 : Alphabet) (a1 : Automaton) : Option Bool :=
  (tree_ValidAlphabet a0).bind fun v1 =>
  if v1 = true then
    if a1.States < 0 then
      some false
    else
      if 300 < a1.States then
        some false
      else
        if 20000 < (a1.Rules.length : Int) then
          some false
        else
          rangeL a1.Final () (fun k1 i1 x1 (s1 : Unit) n1 =>
            jn (fun (u3 : Bool) =>
              if u3 = true then
                if 0 < (i1 : Int) then
                  (idx a1.Final (w64 ((i1 : Int) - 1))).bind fun v3 =>
                  if x1 ≤ v3 then
                    some false
                  else
                    n1 ()
                else
                  n1 ()
              else
                some false) fun j3 =>
            if 0 ≤ x1 then
              j3 (decide (x1 < a1.States))
            else
              j3 false) fun s1 =>
          rangeL a1.Rules () (fun k3 i3 x3 (s3 : Unit) n3 =>
            if x3.Sym < 0 then
              some false
            else
              if (a0.Ranks.length : Int) ≤ x3.Sym then
                some false
              else
                (idx a0.Ranks x3.Sym).bind fun v2 =>
                if (x3.From.length : Int) = v2 then
                  jn (fun (u1 : Bool) =>
                    if u1 = true then
                      rangeL x3.From () (fun k4 i4 x4 (s4 : Unit) n4 =>
                        jn (fun (u2 : Bool) =>
                          if u2 = true then
                            n4 ()
                          else
                            some false) fun j2 =>
                        if 0 ≤ x4 then
                          j2 (decide (x4 < a1.States))
                        else
                          j2 false) fun s4 =>
                      n3 ()
                    else
                      some false) fun j1 =>
                  if 0 ≤ x3.To then
                    j1 (decide (x3.To < a1.States))
                  else
                    j1 false
                else
                  some false) fun s3 =>
          some true
  else
    some false
theorem spec35 (a0 : Alphabet) (a1 : Automaton) (r : Bool) (h : auto_Valid a0 a1 = some r) :
    call Tryd.prog T H (.fn 35) [.p (.agg [.sl none 1 (List.map rowI a0.Ranks)]), .p (.agg [iv a1.States, .sl none 1 (List.map rowI a1.Final), .sl none 3 (List.map row_Rule a1.Rules)])] [] = some (.ret (.p (bv r)), []) := by
  refine Sat.fn fun Q hQ => ?_
  unfold auto_Valid at h
  rw [call35]
  conv => arg 1; arg 7; unfold S03.c35 Tryd.f35; simp only [Option.getD_some]
  obtain ⟨v1, e_v1, h⟩ := ob h
  have e_v1c : call Tryd.prog T H (.fn 74) [.p (.agg [.sl none 1 (List.map rowI a0.Ranks)])] [] = some (.ret (.p (bv v1)), []) := spec74 a0 v1 e_v1
  by_cases c1 : v1 = true
  · have h := iteT h c1
    by_cases c2 : a1.States < 0
    · have h := iteT h c2
      simp only [go_sem, e_v1c, c1, c2]
      injection h with h; subst h
      exact Sat.ok hQ
    · have h := iteF h c2
      by_cases c3 : 300 < a1.States
      · have h := iteT h c3
        simp only [go_sem, e_v1c, c1, c2, c3]
        injection h with h; subst h
        exact Sat.ok hQ
      · have h := iteF h c3
        by_cases c4 : 20000 < (a1.Rules.length : Int)
        · have h := iteT h c4
          simp only [go_sem, e_v1c, c1, c2, c3, c4]
          injection h with h; subst h
          exact Sat.ok hQ
        · have h := iteF h c4
          simp only [go_sem, e_v1c, c1, c2, c3, c4]
          refine run_rangeL (c := L35_0) (live := [2, 3, 5, 33, 34, 35]) (by simp only [go_sem]) (M := fun i1 (s1 : Unit) => [(2, .ptr 0 0), (3, .ptr 1 0), (5, .fn 75 [.ptr 1 0]), (33, .p (.sl none 1 (List.map rowI a1.Final))), (34, .p (iv (a1.Final.length : Int))), (35, .p (iv (i1 : Int)))]) (Z := fun i1 (s1 : Unit) => [.cells [.p (.sl none 1 (List.map rowI a0.Ranks))], .cells [.p (iv a1.States), .p (.sl none 1 (List.map rowI a1.Final)), .p (.sl none 3 (List.map row_Rule a1.Rules))]]) (N := fun (s1 : Unit) => ⟨[(2, .ptr 0 0), (3, .ptr 1 0), (5, .fn 75 [.ptr 1 0])], [.cells [.p (.sl none 1 (List.map rowI a0.Ranks))], .cells [.p (iv a1.States), .p (.sl none 1 (List.map rowI a1.Final)), .p (.sl none 3 (List.map row_Rule a1.Rules))]], [], none, false⟩) h rfl rfl (fun _ _ => rfl) ?_ ?_ ?_
          · intro s1 h
            try dsimp only at h ⊢
            simp only [go_sem]
            refine run_rangeL (c := L35_2) (live := [2, 5, 60, 61, 62]) (by simp only [go_sem]) (M := fun i3 (s3 : Unit) => [(2, .ptr 0 0), (5, .fn 75 [.ptr 1 0]), (60, .p (.sl none 3 (List.map row_Rule a1.Rules))), (61, .p (iv (a1.Rules.length : Int))), (62, .p (iv (i3 : Int)))]) (Z := fun i3 (s3 : Unit) => [.cells [.p (.sl none 1 (List.map rowI a0.Ranks))], .cells [.p (iv a1.States), .p (.sl none 1 (List.map rowI a1.Final)), .p (.sl none 3 (List.map row_Rule a1.Rules))]]) (N := fun (s3 : Unit) => ⟨[], [.cells [.p (.sl none 1 (List.map rowI a0.Ranks))], .cells [.p (iv a1.States), .p (.sl none 1 (List.map rowI a1.Final)), .p (.sl none 3 (List.map row_Rule a1.Rules))]], [], none, false⟩) h rfl rfl (fun _ _ => rfl) ?_ ?_ ?_
            · intro s3 h
              try dsimp only at h ⊢
              simp only [go_sem]
              injection h with h; subst h
              exact Sat.ok hQ
            · intro K3 s3 hb3 he3
              try dsimp only
              conv => arg 1; arg 7; unfold L35_2 loopAt S03.c35 Tryd.f35; simp only [loopIn, Option.getD_some, if_true]
              simp only [go_sem, he3]
              exact hb3
            · intro K3 k3 i3 x3 s3 n3 hR3 hE3 hb3 hx3 hi3 hw3 ih3 h
              try dsimp only at h ⊢
              conv => arg 1; arg 7; unfold L35_2 loopAt S03.c35 Tryd.f35; simp only [loopIn, Option.getD_some, if_true]
              by_cases c5 : x3.Sym < 0
              · have h := iteT h c5
                simp only [go_sem, hx3, hi3, hw3, c5, hR3, hE3]
                injection h with h; subst h
                exact Sat.ok hQ
              · have h := iteF h c5
                by_cases c6 : (a0.Ranks.length : Int) ≤ x3.Sym
                · have h := iteT h c6
                  simp only [go_sem, hx3, hi3, hw3, c5, c6, hR3, hE3]
                  injection h with h; subst h
                  exact Sat.ok hQ
                · have h := iteF h c6
                  obtain ⟨v2, e_v2, h⟩ := ob h
                  obtain ⟨e_v2a, e_v2b⟩ := idx_some e_v2
                  by_cases c7 : (x3.From.length : Int) = v2
                  · have h := iteT h c7
                    have c7b : ((x3.From.length : Int) != v2) = false := bneF c7
                    simp only [go_sem, hx3, hi3, hw3, c5, c6, e_v2a, e_v2b, c7b, hR3, hE3]
                    refine Sat.callj (V := fun (u1 : Bool) => .p (bv u1)) (Z := fun (u1 : Bool) => [.cells [.p (.sl none 1 (List.map rowI a0.Ranks))], .cells [.p (iv a1.States), .p (.sl none 1 (List.map rowI a1.Final)), .p (.sl none 3 (List.map row_Rule a1.Rules))], .cells [.p (iv x3.Sym), .p (.sl none 1 (List.map rowI x3.From)), .p (iv x3.To)]]) h ?_ ?_
                    · intro u1 h
                      try dsimp only at h ⊢
                      by_cases c8 : u1 = true
                      · have h := iteT h c8
                        simp only [go_sem, c8, hw3, hR3, hE3]
                        refine run_rangeL (c := L35_4) (live := [2, 5, 60, 61, 62, 97, 98, 99]) (by simp only [go_sem]) (M := fun i4 (s4 : Unit) => [(2, .ptr 0 0), (5, .fn 75 [.ptr 1 0]), (60, .p (.sl none 3 (List.map row_Rule a1.Rules))), (61, .p (iv (a1.Rules.length : Int))), (62, .p (iv (i3 : Int))), (97, .p (.sl none 1 (List.map rowI x3.From))), (98, .p (iv (x3.From.length : Int))), (99, .p (iv (i4 : Int)))]) (Z := fun i4 (s4 : Unit) => [.cells [.p (.sl none 1 (List.map rowI a0.Ranks))], .cells [.p (iv a1.States), .p (.sl none 1 (List.map rowI a1.Final)), .p (.sl none 3 (List.map row_Rule a1.Rules))], .cells [.p (iv x3.Sym), .p (.sl none 1 (List.map rowI x3.From)), .p (iv x3.To)]]) (N := fun (s4 : Unit) => ⟨[(2, .ptr 0 0), (5, .fn 75 [.ptr 1 0]), (60, .p (.sl none 3 (List.map row_Rule a1.Rules))), (61, .p (iv (a1.Rules.length : Int))), (62, .p (iv (i3 : Int)))], [.cells [.p (.sl none 1 (List.map rowI a0.Ranks))], .cells [.p (iv a1.States), .p (.sl none 1 (List.map rowI a1.Final)), .p (.sl none 3 (List.map row_Rule a1.Rules))], .cells [.p (iv x3.Sym), .p (.sl none 1 (List.map rowI x3.From)), .p (iv x3.To)]], [], none, false⟩) h rfl rfl (fun _ _ => rfl) ?_ ?_ ?_
                        · intro s4 h
                          try dsimp only at h ⊢
                          simp only [go_sem, hw3, hR3, hE3]
                          exact ih3 () h
                        · intro K4 s4 hb4 he4
                          try dsimp only
                          conv => arg 1; arg 7; unfold L35_4 loopAt S03.c35 Tryd.f35; simp only [loopIn, Option.getD_some, if_true]
                          simp only [go_sem, he4]
                          exact hb4
                        · intro K4 k4 i4 x4 s4 n4 hR4 hE4 hb4 hx4 hi4 hw4 ih4 h
                          try dsimp only at h ⊢
                          conv => arg 1; arg 7; unfold L35_4 loopAt S03.c35 Tryd.f35; simp only [loopIn, Option.getD_some, if_true]
                          simp only [go_sem, hx4, hi4, hw4, hw3, hR3, hE3, hR4, hE4]
                          refine Sat.callj (V := fun (u2 : Bool) => .p (bv u2)) (Z := fun (u2 : Bool) => [.cells [.p (.sl none 1 (List.map rowI a0.Ranks))], .cells [.p (iv a1.States), .p (.sl none 1 (List.map rowI a1.Final)), .p (.sl none 3 (List.map row_Rule a1.Rules))], .cells [.p (iv x3.Sym), .p (.sl none 1 (List.map rowI x3.From)), .p (iv x3.To)]]) h ?_ ?_
                          · intro u2 h
                            try dsimp only at h ⊢
                            by_cases c9 : u2 = true
                            · have h := iteT h c9
                              simp only [go_sem, c9, hw3, hR3, hE3, hw4, hR4, hE4]
                              exact ih4 () h
                            · have h := iteF h c9
                              have c9 := eq_false_of_ne_true c9
                              simp only [go_sem, c9, hw3, hR3, hE3, hw4, hR4, hE4]
                              injection h with h; subst h
                              exact Sat.ok hQ
                          · intro j2 h
                            rw [call75]
                            conv => arg 1; arg 7; unfold S03.c75 Tryd.f75; simp only [Option.getD_some]
                            by_cases c10 : 0 ≤ x4
                            · have h := iteT h c10
                              simp only [go_sem, c10]
                              exact Sat.ok ⟨(decide (x4 < a1.States)), rfl, h⟩
                            · have h := iteF h c10
                              simp only [go_sem, c10]
                              exact Sat.ok ⟨false, rfl, h⟩
                      · have h := iteF h c8
                        have c8 := eq_false_of_ne_true c8
                        simp only [go_sem, c8, hw3, hR3, hE3]
                        injection h with h; subst h
                        exact Sat.ok hQ
                    · intro j1 h
                      rw [call75]
                      conv => arg 1; arg 7; unfold S03.c75 Tryd.f75; simp only [Option.getD_some]
                      by_cases c11 : 0 ≤ x3.To
                      · have h := iteT h c11
                        simp only [go_sem, c11]
                        exact Sat.ok ⟨(decide (x3.To < a1.States)), rfl, h⟩
                      · have h := iteF h c11
                        simp only [go_sem, c11]
                        exact Sat.ok ⟨false, rfl, h⟩
                  · have h := iteF h c7
                    have c7b : ((x3.From.length : Int) != v2) = true := bneT c7
                    simp only [go_sem, hx3, hi3, hw3, c5, c6, e_v2a, e_v2b, c7b, hR3, hE3]
                    injection h with h; subst h
                    exact Sat.ok hQ
          · intro K1 s1 hb1 he1
            try dsimp only
            conv => arg 1; arg 7; unfold L35_0 loopAt S03.c35 Tryd.f35; simp only [loopIn, Option.getD_some, if_true]
            simp only [go_sem, he1]
            exact hb1
          · intro K1 k1 i1 x1 s1 n1 hR1 hE1 hb1 hx1 hi1 hw1 ih1 h
            try dsimp only at h ⊢
            conv => arg 1; arg 7; unfold L35_0 loopAt S03.c35 Tryd.f35; simp only [loopIn, Option.getD_some, if_true]
            simp only [go_sem, hx1, hi1, hw1, hR1, hE1]
            refine Sat.callj (V := fun (u3 : Bool) => .p (bv u3)) (Z := fun (u3 : Bool) => [.cells [.p (.sl none 1 (List.map rowI a0.Ranks))], .cells [.p (iv a1.States), .p (.sl none 1 (List.map rowI a1.Final)), .p (.sl none 3 (List.map row_Rule a1.Rules))]]) h ?_ ?_
            · intro u3 h
              try dsimp only at h ⊢
              by_cases c12 : u3 = true
              · have h := iteT h c12
                by_cases c13 : 0 < (i1 : Int)
                · have h := iteT h c13
                  obtain ⟨v3, e_v3, h⟩ := ob h
                  obtain ⟨e_v3a, e_v3b⟩ := idx_some e_v3
                  by_cases c14 : x1 ≤ v3
                  · have h := iteT h c14
                    simp only [go_sem, c12, c13, e_v3a, e_v3b, c14, hw1, hR1, hE1]
                    injection h with h; subst h
                    exact Sat.ok hQ
                  · have h := iteF h c14
                    simp only [go_sem, c12, c13, e_v3a, e_v3b, c14, hw1, hR1, hE1]
                    exact ih1 () h
                · have h := iteF h c13
                  simp only [go_sem, c12, c13, hw1, hR1, hE1]
                  exact ih1 () h
              · have h := iteF h c12
                have c12 := eq_false_of_ne_true c12
                simp only [go_sem, c12, hw1, hR1, hE1]
                injection h with h; subst h
                exact Sat.ok hQ
            · intro j3 h
              rw [call75]
              conv => arg 1; arg 7; unfold S03.c75 Tryd.f75; simp only [Option.getD_some]
              by_cases c15 : 0 ≤ x1
              · have h := iteT h c15
                simp only [go_sem, c15]
                exact Sat.ok ⟨(decide (x1 < a1.States)), rfl, h⟩
              · have h := iteF h c15
                simp only [go_sem, c15]
                exact Sat.ok ⟨false, rfl, h⟩
  · have h := iteF h c1
    have c1 := eq_false_of_ne_true c1
    simp only [go_sem, e_v1c, c1]
    injection h with h; subst h
    exact Sat.ok hQ

def tree_formed : Nat → Alphabet → Tree → Int → Option (Bool × Int)
  | 0, _, _, _ => none
  | n + 1, a0, a1, a2 =>
    if (w64 (a2 - 1)) < 0 then
      some (false, w64 (a2 - 1))
    else
      if a1.Sym < 0 then
        some (false, w64 (a2 - 1))
      else
        if (a0.Ranks.length : Int) ≤ a1.Sym then
          some (false, w64 (a2 - 1))
        else
          (idx a0.Ranks a1.Sym).bind fun v1 =>
          if (a1.Kids.length : Int) = v1 then
            rangeL a1.Kids (w64 (a2 - 1)) (fun k1 i1 x1 (s1 : Int) n1 =>
              (tree_formed n a0 x1 s1).bind fun v2 =>
              if v2.1 = true then
                n1 v2.2
              else
                some (false, v2.2)) fun s1 =>
            some (true, s1)
          else
            some (false, w64 (a2 - 1))
theorem spec82 : ∀ (n : Nat), (∀ (σ : List AObj) (p2 : Nat) (hp2 : p2 < σ.length) (a0 : Alphabet) (a1 : Tree) (a2 : Int) (r : Bool × Int), tree_formed n a0 a1 a2 = some r →
    call Tryd.prog T H (.fn 82) [.p (.agg [.sl none 1 (List.map rowI a0.Ranks)]), .p (.agg [iv a1.Sym, .sl none 2 (List.map row_Tree a1.Kids)]), .ptr p2 0] (List.set σ p2 (.cells [.p (iv a2)])) = some (.ret (.p (bv r.1)), (List.set σ p2 (.cells [.p (iv r.2)])))) := by
  intro n
  induction n with
  | zero => intro σ p2 hp2 a0 a1 a2 r h; cases h
  | succ n ih =>
    intro σ p2 hp2 a0 a1 a2 r h
    refine Sat.fn fun Q hQ => ?_
    rw [tree_formed] at h
    rw [call82]
    conv => arg 1; arg 7; unfold S03.c82 Tryd.f82; simp only [Option.getD_some]
    by_cases c1 : (w64 (a2 - 1)) < 0
    · have h := iteT h c1
      simp only [go_sem, c1, hp2, fun k => Nat.lt_add_right k hp2, Nat.not_le_of_lt hp2, fun k => Nat.not_le_of_lt (Nat.lt_add_right k hp2)]
      injection h with h; subst h
      exact Sat.ok hQ
    · have h := iteF h c1
      by_cases c2 : a1.Sym < 0
      · have h := iteT h c2
        simp only [go_sem, c1, c2, hp2, fun k => Nat.lt_add_right k hp2, Nat.not_le_of_lt hp2, fun k => Nat.not_le_of_lt (Nat.lt_add_right k hp2)]
        injection h with h; subst h
        exact Sat.ok hQ
      · have h := iteF h c2
        by_cases c3 : (a0.Ranks.length : Int) ≤ a1.Sym
        · have h := iteT h c3
          simp only [go_sem, c1, c2, c3, hp2, fun k => Nat.lt_add_right k hp2, Nat.not_le_of_lt hp2, fun k => Nat.not_le_of_lt (Nat.lt_add_right k hp2)]
          injection h with h; subst h
          exact Sat.ok hQ
        · have h := iteF h c3
          obtain ⟨v1, e_v1, h⟩ := ob h
          obtain ⟨e_v1a, e_v1b⟩ := idx_some e_v1
          by_cases c4 : (a1.Kids.length : Int) = v1
          · have h := iteT h c4
            have c4b : ((a1.Kids.length : Int) != v1) = false := bneF c4
            simp only [go_sem, c1, c2, c3, e_v1a, e_v1b, c4b, hp2, fun k => Nat.lt_add_right k hp2, Nat.not_le_of_lt hp2, fun k => Nat.not_le_of_lt (Nat.lt_add_right k hp2)]
            refine run_rangeL (c := L82_0) (live := [2, 3, 44, 45, 46]) (by simp only [go_sem]) (M := fun i1 (s1 : Int) => [(2, .ptr p2 0), (3, .ptr σ.length 0), (44, .p (.sl none 2 (List.map row_Tree a1.Kids))), (45, .p (iv (a1.Kids.length : Int))), (46, .p (iv (i1 : Int)))]) (Z := fun i1 (s1 : Int) => ((List.set σ p2 (.cells [.p (iv s1)])) ++ [.cells [.p (.sl none 1 (List.map rowI a0.Ranks))], .cells [.p (iv a1.Sym), .p (.sl none 2 (List.map row_Tree a1.Kids))]])) (N := fun (s1 : Int) => ⟨[], ((List.set σ p2 (.cells [.p (iv s1)])) ++ [.cells [.p (.sl none 1 (List.map rowI a0.Ranks))], .cells [.p (iv a1.Sym), .p (.sl none 2 (List.map row_Tree a1.Kids))]]), [], none, false⟩) h rfl rfl (fun _ _ => rfl) ?_ ?_ ?_
            · intro s1 h
              try dsimp only at h ⊢
              simp only [go_sem, hp2, fun k => Nat.lt_add_right k hp2, Nat.not_le_of_lt hp2, fun k => Nat.not_le_of_lt (Nat.lt_add_right k hp2)]
              injection h with h; subst h
              exact Sat.ok hQ
            · intro K1 s1 hb1 he1
              try dsimp only
              conv => arg 1; arg 7; unfold L82_0 loopAt S03.c82 Tryd.f82; simp only [loopIn, Option.getD_some, if_true]
              simp only [go_sem, he1, hp2, fun k => Nat.lt_add_right k hp2, Nat.not_le_of_lt hp2, fun k => Nat.not_le_of_lt (Nat.lt_add_right k hp2)]
              exact hb1
            · intro K1 k1 i1 x1 s1 n1 hR1 hE1 hb1 hx1 hi1 hw1 ih1 h
              try dsimp only at h ⊢
              conv => arg 1; arg 7; unfold L82_0 loopAt S03.c82 Tryd.f82; simp only [loopIn, Option.getD_some, if_true]
              obtain ⟨v2, e_v2, h⟩ := ob h
              have e_v2c : call Tryd.prog T H (.fn 82) [.p (.agg [.sl none 1 (List.map rowI a0.Ranks)]), .p (.agg [iv x1.Sym, .sl none 2 (List.map row_Tree x1.Kids)]), .ptr p2 0] ((List.set σ p2 (.cells [.p (iv s1)])) ++ [.cells [.p (.sl none 1 (List.map rowI a0.Ranks))], .cells [.p (iv a1.Sym), .p (.sl none 2 (List.map row_Tree a1.Kids))], .cells [.p (iv x1.Sym), .p (.sl none 2 (List.map row_Tree x1.Kids))]]) = some (.ret (.p (bv v2.1)), ((List.set σ p2 (.cells [.p (iv v2.2)])) ++ [.cells [.p (.sl none 1 (List.map rowI a0.Ranks))], .cells [.p (iv a1.Sym), .p (.sl none 2 (List.map row_Tree a1.Kids))], .cells [.p (iv x1.Sym), .p (.sl none 2 (List.map row_Tree x1.Kids))]])) := by have q := ih ((List.set σ p2 (.cells [.p (iv s1)])) ++ [.cells [.p (.sl none 1 (List.map rowI a0.Ranks))], .cells [.p (iv a1.Sym), .p (.sl none 2 (List.map row_Tree a1.Kids))], .cells [.p (iv x1.Sym), .p (.sl none 2 (List.map row_Tree x1.Kids))]]) p2 (by simp only [List.length_append, List.length_set, List.length_cons, List.length_nil]; omega) a0 x1 s1 v2 e_v2; first | (simp only [go_sem, hp2, fun k => Nat.lt_add_right k hp2, Nat.not_le_of_lt hp2, fun k => Nat.not_le_of_lt (Nat.lt_add_right k hp2)] at q ⊢; exact q) | exact q
              by_cases c5 : v2.1 = true
              · have h := iteT h c5
                simp only [go_sem, hx1, hi1, hw1, e_v2c, c5, hR1, hE1, hp2, fun k => Nat.lt_add_right k hp2, Nat.not_le_of_lt hp2, fun k => Nat.not_le_of_lt (Nat.lt_add_right k hp2)]
                exact ih1 v2.2 h
              · have h := iteF h c5
                have c5 := eq_false_of_ne_true c5
                simp only [go_sem, hx1, hi1, hw1, e_v2c, c5, hR1, hE1, hp2, fun k => Nat.lt_add_right k hp2, Nat.not_le_of_lt hp2, fun k => Nat.not_le_of_lt (Nat.lt_add_right k hp2)]
                injection h with h; subst h
                exact Sat.ok hQ
          · have h := iteF h c4
            have c4b : ((a1.Kids.length : Int) != v1) = true := bneT c4
            simp only [go_sem, c1, c2, c3, e_v1a, e_v1b, c4b, hp2, fun k => Nat.lt_add_right k hp2, Nat.not_le_of_lt hp2, fun k => Nat.not_le_of_lt (Nat.lt_add_right k hp2)]
            injection h with h; subst h
            exact Sat.ok hQ

def tree_Valid (n : Nat) (a0 : Alphabet) (a1 : Tree) : Option Bool :=
  (tree_ValidAlphabet a0).bind fun v1 =>
  if v1 = true then
    (tree_formed n a0 a1 300).bind fun v2 =>
    some v2.1
  else
    some false
theorem spec60 (n : Nat) (a0 : Alphabet) (a1 : Tree) (r : Bool) (h : tree_Valid n a0 a1 = some r) :
    call Tryd.prog T H (.fn 60) [.p (.agg [.sl none 1 (List.map rowI a0.Ranks)]), .p (.agg [iv a1.Sym, .sl none 2 (List.map row_Tree a1.Kids)])] [] = some (.ret (.p (bv r)), []) := by
  refine Sat.fn fun Q hQ => ?_
  unfold tree_Valid at h
  rw [call60]
  conv => arg 1; arg 7; unfold S03.c60 Tryd.f60; simp only [Option.getD_some]
  obtain ⟨v1, e_v1, h⟩ := ob h
  have e_v1c : call Tryd.prog T H (.fn 74) [.p (.agg [.sl none 1 (List.map rowI a0.Ranks)])] [] = some (.ret (.p (bv v1)), []) := spec74 a0 v1 e_v1
  by_cases c1 : v1 = true
  · have h := iteT h c1
    obtain ⟨v2, e_v2, h⟩ := ob h
    have e_v2c : call Tryd.prog T H (.fn 82) [.p (.agg [.sl none 1 (List.map rowI a0.Ranks)]), .p (.agg [iv a1.Sym, .sl none 2 (List.map row_Tree a1.Kids)]), .ptr 2 0] [.cells [.p (.sl none 1 (List.map rowI a0.Ranks))], .cells [.p (iv a1.Sym), .p (.sl none 2 (List.map row_Tree a1.Kids))], .cells [.p (iv 300)]] = some (.ret (.p (bv v2.1)), [.cells [.p (.sl none 1 (List.map rowI a0.Ranks))], .cells [.p (iv a1.Sym), .p (.sl none 2 (List.map row_Tree a1.Kids))], .cells [.p (iv v2.2)]]) := by have q := spec82 n [.cells [.p (.sl none 1 (List.map rowI a0.Ranks))], .cells [.p (iv a1.Sym), .p (.sl none 2 (List.map row_Tree a1.Kids))], .cells [.p (iv 300)]] 2 (by simp only [List.length_append, List.length_set, List.length_cons, List.length_nil]; omega) a0 a1 300 v2 e_v2; first | (simp only [go_sem] at q ⊢; exact q) | exact q
    simp only [go_sem, e_v1c, c1, e_v2c]
    injection h with h; subst h
    exact Sat.ok hQ
  · have h := iteF h c1
    have c1 := eq_false_of_ne_true c1
    simp only [go_sem, e_v1c, c1]
    injection h with h; subst h
    exact Sat.ok hQ

def auto_asked (n : Nat) (a0 : Alphabet) (a1 : Automaton) (a2 : Tree) : Option Int :=
  (auto_Valid a0 a1).bind fun v1 =>
  if v1 = true then
    (tree_Valid n a0 a2).bind fun v2 =>
    if v2 = true then
      some 0
    else
      some 1
  else
    some 1
theorem spec49 (n : Nat) (a0 : Alphabet) (a1 : Automaton) (a2 : Tree) (r : Int) (h : auto_asked n a0 a1 a2 = some r) :
    call Tryd.prog T H (.fn 49) [.p (.agg [.sl none 1 (List.map rowI a0.Ranks)]), .p (.agg [iv a1.States, .sl none 1 (List.map rowI a1.Final), .sl none 3 (List.map row_Rule a1.Rules)]), .p (.agg [iv a2.Sym, .sl none 2 (List.map row_Tree a2.Kids)])] [] = some (.ret (.p (iv r)), []) := by
  refine Sat.fn fun Q hQ => ?_
  unfold auto_asked at h
  rw [call49]
  conv => arg 1; arg 7; unfold S03.c49 Tryd.f49; simp only [Option.getD_some]
  obtain ⟨v1, e_v1, h⟩ := ob h
  have e_v1c : call Tryd.prog T H (.fn 35) [.p (.agg [.sl none 1 (List.map rowI a0.Ranks)]), .p (.agg [iv a1.States, .sl none 1 (List.map rowI a1.Final), .sl none 3 (List.map row_Rule a1.Rules)])] [] = some (.ret (.p (bv v1)), []) := spec35 a0 a1 v1 e_v1
  by_cases c1 : v1 = true
  · have h := iteT h c1
    obtain ⟨v2, e_v2, h⟩ := ob h
    have e_v2c : call Tryd.prog T H (.fn 60) [.p (.agg [.sl none 1 (List.map rowI a0.Ranks)]), .p (.agg [iv a2.Sym, .sl none 2 (List.map row_Tree a2.Kids)])] [] = some (.ret (.p (bv v2)), []) := spec60 n a0 a2 v2 e_v2
    by_cases c2 : v2 = true
    · have h := iteT h c2
      simp only [go_sem, e_v1c, c1, e_v2c, c2]
      injection h with h; subst h
      exact Sat.ok hQ
    · have h := iteF h c2
      have c2 := eq_false_of_ne_true c2
      simp only [go_sem, e_v1c, c1, e_v2c, c2]
      injection h with h; subst h
      exact Sat.ok hQ
  · have h := iteF h c1
    have c1 := eq_false_of_ne_true c1
    simp only [go_sem, e_v1c, c1]
    injection h with h; subst h
    exact Sat.ok hQ

def auto_sets : Nat → Automaton → (List (List Int)) → Tree → Option (List (List Bool))
  | 0, _, _, _ => none
  | n + 1, a0, a1, a2 =>
    (mkz 1 a0.States a0.States false).bind fun v1 =>
    rangeL a2.Kids (([] : List (List Bool)), ([] : List (List Bool))) (fun k1 i1 x1 (s1 : (List (List Bool)) × (List (List Bool))) n1 =>
      (auto_sets n a0 a1 x1).bind fun v8 =>
      (v8[0]?).bind fun v9 =>
      (app 24 s1.2 [v9]).bind fun v10 =>
      (app 24 (([] : List Bool) :: s1.1) v8).bind fun v11 =>
      n1 ((List.tail v11), v10)) fun s1 =>
    (idx a1 a2.Sym).bind fun v2 =>
    rangeL v2 v1 (fun k4 i4 x4 (s4 : (List Bool)) n4 =>
      (idx a0.Rules x4).bind fun v4 =>
      rangeL v4.From () (fun k5 i5 x5 (s5 : Unit) n5 =>
        (s1.2[i5]?).bind fun v6 =>
        (idx v6 x5).bind fun v7 =>
        if v7 = true then
          n5 ()
        else
          n4 s4) fun s5 =>
      (idxM ((a0.States).toNat) s4 v4.To).bind fun v5 =>
      n4 (List.set s4 ((v4.To).toNat) true)) fun s4 =>
    (tkM ((a0.States).toNat) s4).bind fun v3 =>
    some (v3 :: s1.1)
theorem spec50 : ∀ (n : Nat), (∀ (a0 : Automaton) (a1 : List (List Int)) (a2 : Tree) (r : List (List Bool)), auto_sets n a0 a1 a2 = some r →
    call Tryd.prog T H (.fn 50) [.p (.agg [iv a0.States, .sl none 1 (List.map rowI a0.Final), .sl none 3 (List.map row_Rule a0.Rules)]), .p (.sl none 1 (List.map (rowL 1 rowI) a1)), .p (.agg [iv a2.Sym, .sl none 2 (List.map row_Tree a2.Kids)])] [] = some (.ret (.p (.sl none 1 (List.map (rowL 1 rowB) r))), [])) := by
  intro n
  induction n with
  | zero => intro a0 a1 a2 r h; cases h
  | succ n ih =>
    intro a0 a1 a2 r h
    refine Sat.fn fun Q hQ => ?_
    rw [auto_sets] at h
    rw [call50]
    conv => arg 1; arg 7; unfold S03.c50 Tryd.f50; simp only [Option.getD_some]
    obtain ⟨v1, e_v1, h⟩ := ob h
    obtain ⟨e_v11, e_v12, e_v13, e_v14⟩ := mkz_some e_v1
    have e_v1b : boundOk (a0.States).toNat 1 = true := bnd_of e_v13 (by decide)
    have e_v1r : List.replicate (a0.States).toNat [AV.p (bv false)] = List.map (rowA rowB) v1 := by rw [e_v14]; exact rep_map (by first | rfl | simp only [go_sem, List.map_nil])
    simp only [go_sem, e_v11, e_v12, e_v1b, e_v1r]
    refine run_rangeL (c := L50_0) (live := [1, 3, 5, 7, 8, 22, 23, 24]) (by simp only [go_sem]) (M := fun i1 (s1 : (List (List Bool)) × (List (List Bool))) => [(1, .p (.sl none 1 (List.map (rowL 1 rowI) a1))), (3, .ptr 0 0), (5, .ptr 1 0), (7, .asl true 1 ([.ms 2 0 1 0 ((a0.States).toNat)] :: List.map (rowA (rowL 1 rowB)) s1.1)), (8, .own 1 (List.map (rowL 1 rowB) s1.2)), (22, .p (.sl none 2 (List.map row_Tree a2.Kids))), (23, .p (iv (a2.Kids.length : Int))), (24, .p (iv (i1 : Int)))]) (Z := fun i1 (s1 : (List (List Bool)) × (List (List Bool))) => [.cells [.p (iv a0.States), .p (.sl none 1 (List.map rowI a0.Final)), .p (.sl none 3 (List.map row_Rule a0.Rules))], .cells [.p (iv a2.Sym), .p (.sl none 2 (List.map row_Tree a2.Kids))], .arr 0 1 (List.map (rowA rowB) v1)]) (N := fun (s1 : (List (List Bool)) × (List (List Bool))) => ⟨[(1, .p (.sl none 1 (List.map (rowL 1 rowI) a1))), (3, .ptr 0 0), (5, .ptr 1 0), (7, .asl true 1 ([.ms 2 0 1 0 ((a0.States).toNat)] :: List.map (rowA (rowL 1 rowB)) s1.1)), (8, .own 1 (List.map (rowL 1 rowB) s1.2))], [.cells [.p (iv a0.States), .p (.sl none 1 (List.map rowI a0.Final)), .p (.sl none 3 (List.map row_Rule a0.Rules))], .cells [.p (iv a2.Sym), .p (.sl none 2 (List.map row_Tree a2.Kids))], .arr 0 1 (List.map (rowA rowB) v1)], [], none, false⟩) h rfl rfl (fun _ _ => rfl) ?_ ?_ ?_
    · intro s1 h
      try dsimp only at h ⊢
      obtain ⟨v2, e_v2, h⟩ := ob h
      obtain ⟨e_v2a, e_v2b⟩ := idx_some e_v2
      simp only [go_sem, e_v2a, e_v2b]
      refine run_rangeL (c := L50_2) (live := [3, 7, 8, 46, 47, 48]) (by simp only [go_sem]) (M := fun i4 (s4 : (List Bool)) => [(3, .ptr 0 0), (7, .asl true 1 ([.ms 2 0 1 0 ((a0.States).toNat)] :: List.map (rowA (rowL 1 rowB)) s1.1)), (8, .own 1 (List.map (rowL 1 rowB) s1.2)), (46, .p (.sl none 1 (List.map rowI v2))), (47, .p (iv (v2.length : Int))), (48, .p (iv (i4 : Int)))]) (Z := fun i4 (s4 : (List Bool)) => [.cells [.p (iv a0.States), .p (.sl none 1 (List.map rowI a0.Final)), .p (.sl none 3 (List.map row_Rule a0.Rules))], .cells [.p (iv a2.Sym), .p (.sl none 2 (List.map row_Tree a2.Kids))], .arr 0 1 (List.map (rowA rowB) s4)]) (N := fun (s4 : (List Bool)) => ⟨[(7, .asl true 1 ([.ms 2 0 1 0 ((a0.States).toNat)] :: List.map (rowA (rowL 1 rowB)) s1.1))], [.cells [.p (iv a0.States), .p (.sl none 1 (List.map rowI a0.Final)), .p (.sl none 3 (List.map row_Rule a0.Rules))], .cells [.p (iv a2.Sym), .p (.sl none 2 (List.map row_Tree a2.Kids))], .arr 0 1 (List.map (rowA rowB) s4)], [], none, false⟩) h rfl rfl (fun _ _ => rfl) ?_ ?_ ?_
      · intro s4 h
        try dsimp only at h ⊢
        obtain ⟨v3, e_v3, h⟩ := ob h
        have e_v3a := (tkM_some e_v3).1
        have e_v3b := (tkM_some e_v3).2
        simp only [go_sem, e_v3a, e_v3b]
        injection h with h; subst h
        exact Sat.ok hQ
      · intro K4 s4 hb4 he4
        try dsimp only
        conv => arg 1; arg 7; unfold L50_2 loopAt S03.c50 Tryd.f50; simp only [loopIn, Option.getD_some, if_true]
        simp only [go_sem, he4]
        exact hb4
      · intro K4 k4 i4 x4 s4 n4 hR4 hE4 hb4 hx4 hi4 hw4 ih4 h
        try dsimp only at h ⊢
        conv => arg 1; arg 7; unfold L50_2 loopAt S03.c50 Tryd.f50; simp only [loopIn, Option.getD_some, if_true]
        obtain ⟨v4, e_v4, h⟩ := ob h
        obtain ⟨e_v4a, e_v4b⟩ := idx_some e_v4
        simp only [go_sem, hx4, hi4, hw4, e_v4a, e_v4b, hR4, hE4]
        refine run_rangeL (c := L50_4) (live := [3, 7, 8, 14, 46, 47, 48, 58, 59, 60]) (by simp only [go_sem]) (M := fun i5 (s5 : Unit) => [(3, .ptr 0 0), (7, .asl true 1 ([.ms 2 0 1 0 ((a0.States).toNat)] :: List.map (rowA (rowL 1 rowB)) s1.1)), (8, .own 1 (List.map (rowL 1 rowB) s1.2)), (14, .ptr 3 0), (46, .p (.sl none 1 (List.map rowI v2))), (47, .p (iv (v2.length : Int))), (48, .p (iv (i4 : Int))), (58, .p (.sl none 1 (List.map rowI v4.From))), (59, .p (iv (v4.From.length : Int))), (60, .p (iv (i5 : Int)))]) (Z := fun i5 (s5 : Unit) => [.cells [.p (iv a0.States), .p (.sl none 1 (List.map rowI a0.Final)), .p (.sl none 3 (List.map row_Rule a0.Rules))], .cells [.p (iv a2.Sym), .p (.sl none 2 (List.map row_Tree a2.Kids))], .arr 0 1 (List.map (rowA rowB) s4), .cells [.p (iv v4.Sym), .p (.sl none 1 (List.map rowI v4.From)), .p (iv v4.To)]]) (N := fun (s5 : Unit) => ⟨[(3, .ptr 0 0), (7, .asl true 1 ([.ms 2 0 1 0 ((a0.States).toNat)] :: List.map (rowA (rowL 1 rowB)) s1.1)), (8, .own 1 (List.map (rowL 1 rowB) s1.2)), (14, .ptr 3 0), (46, .p (.sl none 1 (List.map rowI v2))), (47, .p (iv (v2.length : Int))), (48, .p (iv (i4 : Int)))], [.cells [.p (iv a0.States), .p (.sl none 1 (List.map rowI a0.Final)), .p (.sl none 3 (List.map row_Rule a0.Rules))], .cells [.p (iv a2.Sym), .p (.sl none 2 (List.map row_Tree a2.Kids))], .arr 0 1 (List.map (rowA rowB) s4), .cells [.p (iv v4.Sym), .p (.sl none 1 (List.map rowI v4.From)), .p (iv v4.To)]], [], none, false⟩) h rfl rfl (fun _ _ => rfl) ?_ ?_ ?_
        · intro s5 h
          try dsimp only at h ⊢
          obtain ⟨v5, e_v5, h⟩ := ob h
          obtain ⟨e_v5a, e_v5b, e_v5d⟩ := idxM_some e_v5
          have e_y1 : List.set (List.map (rowA rowB) s4) ((v4.To).toNat) [.p (bv true)] = List.map (rowA rowB) (List.set s4 ((v4.To).toNat) true) := map_set' (by first | rfl | simp only [go_sem, List.map_cons, List.map_nil])
          simp only [go_sem, e_v5a, e_v5b, e_v5d, e_y1, hw4, hR4, hE4]
          exact ih4 (List.set s4 ((v4.To).toNat) true) h
        · intro K5 s5 hb5 he5
          try dsimp only
          conv => arg 1; arg 7; unfold L50_4 loopAt S03.c50 Tryd.f50; simp only [loopIn, Option.getD_some, if_true]
          simp only [go_sem, he5]
          exact hb5
        · intro K5 k5 i5 x5 s5 n5 hR5 hE5 hb5 hx5 hi5 hw5 ih5 h
          try dsimp only at h ⊢
          conv => arg 1; arg 7; unfold L50_4 loopAt S03.c50 Tryd.f50; simp only [loopIn, Option.getD_some, if_true]
          obtain ⟨v6, e_v6, h⟩ := ob h
          obtain ⟨v7, e_v7, h⟩ := ob h
          obtain ⟨e_v7a, e_v7b⟩ := idx_some e_v7
          by_cases c1 : v7 = true
          · have h := iteT h c1
            simp only [go_sem, hx5, hi5, hw5, e_v6, e_v7a, e_v7b, c1, hw4, hR4, hE4, hR5, hE5]
            exact ih5 () h
          · have h := iteF h c1
            have c1 := eq_false_of_ne_true c1
            simp only [go_sem, hx5, hi5, hw5, e_v6, e_v7a, e_v7b, c1, hw4, hR4, hE4, hR5, hE5]
            exact ih4 s4 h
    · intro K1 s1 hb1 he1
      try dsimp only
      conv => arg 1; arg 7; unfold L50_0 loopAt S03.c50 Tryd.f50; simp only [loopIn, Option.getD_some, if_true]
      simp only [go_sem, he1]
      exact hb1
    · intro K1 k1 i1 x1 s1 n1 hR1 hE1 hb1 hx1 hi1 hw1 ih1 h
      try dsimp only at h ⊢
      conv => arg 1; arg 7; unfold L50_0 loopAt S03.c50 Tryd.f50; simp only [loopIn, Option.getD_some, if_true]
      obtain ⟨v8, e_v8, h⟩ := ob h
      have e_v8c : call Tryd.prog T H (.fn 50) [.p (.agg [iv a0.States, .sl none 1 (List.map rowI a0.Final), .sl none 3 (List.map row_Rule a0.Rules)]), .p (.sl none 1 (List.map (rowL 1 rowI) a1)), .p (.agg [iv x1.Sym, .sl none 2 (List.map row_Tree x1.Kids)])] [] = some (.ret (.p (.sl none 1 (List.map (rowL 1 rowB) v8))), []) := ih a0 a1 x1 v8 e_v8
      obtain ⟨v9, e_v9, h⟩ := ob h
      obtain ⟨v10, e_v10, h⟩ := ob h
      have e_v10a : boundOk (s1.2.length + 1) 24 = true := bnd_of (by have := (app_some e_v10).1; simpa using this) (by decide)
      have e_v10b : (List.map (rowL 1 rowB) s1.2) ++ [[.sl none 1 (List.map rowB v9)]] = List.map (rowL 1 rowB) v10 := by rw [(app_some e_v10).2]; simp [rowB, rowL]
      obtain ⟨v11, e_v11, h⟩ := ob h
      have e_v11a : boundOk (s1.1.length + 1 + v8.length) 24 = true := bnd_of (by have := (app_some e_v11).1; simp only [List.length_cons] at this; simpa using this) (by decide)
      have e_v11b : List.map (rowA (rowL 1 rowB)) s1.1 ++ (List.map (rowA (rowL 1 rowB)) v8) = List.map (rowA (rowL 1 rowB)) (List.tail v11) := by rw [(app_some e_v11).2]; simp [rowA, rowB, rowL]
      simp only [go_sem, hx1, hi1, hw1, e_v8c, e_v9, e_v10a, e_v10b, e_v11a, e_v11b, hR1, hE1]
      exact ih1 ((List.tail v11), v10) h

def auto_By (a0 : Alphabet) (a1 : Automaton) : Option (List (List Int)) :=
  (mkz 24 (a0.Ranks.length : Int) (a0.Ranks.length : Int) ([] : List Int)).bind fun v1 =>
  rangeL a1.Rules v1 (fun k1 i1 x1 (s1 : (List (List Int))) n1 =>
    (idxM a0.Ranks.length s1 x1.Sym).bind fun v3 =>
    (app 8 v3 [(i1 : Int)]).bind fun v4 =>
    n1 (List.set s1 ((x1.Sym).toNat) v4)) fun s1 =>
  (tkM a0.Ranks.length s1).bind fun v2 =>
  some v2
theorem spec51 (a0 : Alphabet) (a1 : Automaton) (r : List (List Int)) (h : auto_By a0 a1 = some r) :
    call Tryd.prog T H (.fn 51) [.p (.agg [.sl none 1 (List.map rowI a0.Ranks)]), .p (.agg [iv a1.States, .sl none 1 (List.map rowI a1.Final), .sl none 3 (List.map row_Rule a1.Rules)])] [] = some (.ret (.p (.sl none 1 (List.map (rowL 1 rowI) r))), []) := by
  refine Sat.fn fun Q hQ => ?_
  unfold auto_By at h
  rw [call51]
  conv => arg 1; arg 7; unfold S03.c51 Tryd.f51; simp only [Option.getD_some]
  obtain ⟨v1, e_v1, h⟩ := ob h
  obtain ⟨e_v11, e_v12, e_v13, e_v14⟩ := mkz_some e_v1
  have e_v1b : boundOk ((a0.Ranks.length : Int)).toNat 24 = true := bnd_of e_v13 (by decide)
  have e_v1r : List.replicate ((a0.Ranks.length : Int)).toNat [.own 1 []] = List.map (rowO 1 rowI) v1 := by rw [e_v14]; exact rep_map (by first | rfl | simp only [go_sem, List.map_nil])
  try simp only [Int.toNat_natCast] at e_v11
  try simp only [Int.toNat_natCast] at e_v12
  try simp only [Int.toNat_natCast] at e_v1b
  try simp only [Int.toNat_natCast] at e_v1r
  try simp only [Int.toNat_natCast] at e_v11
  try simp only [Int.toNat_natCast] at e_v12
  try simp only [Int.toNat_natCast] at e_v1b
  try simp only [Int.toNat_natCast] at e_v1r
  simp only [go_sem, e_v11, e_v12, e_v1b, e_v1r]
  refine run_rangeL (c := L51_0) (live := [5, 13, 14, 15]) (by simp only [go_sem]) (M := fun i1 (s1 : (List (List Int))) => [(5, .ms 2 0 1 0 a0.Ranks.length), (13, .p (.sl none 3 (List.map row_Rule a1.Rules))), (14, .p (iv (a1.Rules.length : Int))), (15, .p (iv (i1 : Int)))]) (Z := fun i1 (s1 : (List (List Int))) => [.cells [.p (.sl none 1 (List.map rowI a0.Ranks))], .cells [.p (iv a1.States), .p (.sl none 1 (List.map rowI a1.Final)), .p (.sl none 3 (List.map row_Rule a1.Rules))], .arr 0 1 (List.map (rowO 1 rowI) s1)]) (N := fun (s1 : (List (List Int))) => ⟨[(5, .ms 2 0 1 0 a0.Ranks.length)], [.cells [.p (.sl none 1 (List.map rowI a0.Ranks))], .cells [.p (iv a1.States), .p (.sl none 1 (List.map rowI a1.Final)), .p (.sl none 3 (List.map row_Rule a1.Rules))], .arr 0 1 (List.map (rowO 1 rowI) s1)], [], none, false⟩) h rfl rfl (fun _ _ => rfl) ?_ ?_ ?_
  · intro s1 h
    try dsimp only at h ⊢
    obtain ⟨v2, e_v2, h⟩ := ob h
    have e_v2a := (tkM_some e_v2).1
    have e_v2b := (tkM_some e_v2).2
    simp only [go_sem, e_v2a, e_v2b]
    injection h with h; subst h
    exact Sat.ok hQ
  · intro K1 s1 hb1 he1
    try dsimp only
    conv => arg 1; arg 7; unfold L51_0 loopAt S03.c51 Tryd.f51; simp only [loopIn, Option.getD_some, if_true]
    simp only [go_sem, he1]
    exact hb1
  · intro K1 k1 i1 x1 s1 n1 hR1 hE1 hb1 hx1 hi1 hw1 ih1 h
    try dsimp only at h ⊢
    conv => arg 1; arg 7; unfold L51_0 loopAt S03.c51 Tryd.f51; simp only [loopIn, Option.getD_some, if_true]
    obtain ⟨v3, e_v3, h⟩ := ob h
    obtain ⟨e_v3a, e_v3b, e_v3d⟩ := idxM_some e_v3
    have e_g1 : (List.set (List.map (rowO 1 rowI) s1) ((x1.Sym).toNat) [.p (.sl none 1 (List.map rowI v3))])[(x1.Sym).toNat]? = some [.p (.sl none 1 (List.map rowI v3))] := by first | exact set_get_map e_v3 _ | exact set_get_map e_v3d _
    obtain ⟨v4, e_v4, h⟩ := ob h
    have e_v4a : boundOk (v3.length + 1) 8 = true := bnd_of (by have := (app_some e_v4).1; simpa using this) (by decide)
    have e_v4b : (List.map rowI v3) ++ [[iv (i1 : Int)]] = List.map rowI v4 := by rw [(app_some e_v4).2]; simp [rowI]
    have e_y1 : List.set (List.map (rowO 1 rowI) s1) ((x1.Sym).toNat) [.own 1 (List.map rowI v4)] = List.map (rowO 1 rowI) (List.set s1 ((x1.Sym).toNat) v4) := map_set' (by first | rfl | simp only [go_sem, List.map_cons, List.map_nil])
    simp only [go_sem, hx1, hi1, hw1, e_v3a, e_v3b, e_v3d, e_g1, List.set_set, e_v4a, e_v4b, e_y1, hR1, hE1]
    exact ih1 (List.set s1 ((x1.Sym).toNat) v4) h

def auto_States (n : Nat) (a0 : Alphabet) (a1 : Automaton) (a2 : Tree) : Option ((List Int) × Int) :=
  (auto_asked n a0 a1 a2).bind fun v1 =>
  if v1 = 0 then
    (auto_By a0 a1).bind fun v2 =>
    (auto_sets n a1 v2 a2).bind fun v3 =>
    (v3[0]?).bind fun v4 =>
    rangeL v4 ([] : List Int) (fun k1 i1 x1 (s1 : (List Int)) n1 =>
      if x1 = true then
        (app 8 s1 [(i1 : Int)]).bind fun v5 =>
        n1 v5
      else
        n1 s1) fun s1 =>
    some (s1, 0)
  else
    some (([] : List Int), v1)
theorem spec11 (n : Nat) (a0 : Alphabet) (a1 : Automaton) (a2 : Tree) (r : (List Int) × Int) (h : auto_States n a0 a1 a2 = some r) :
    call Tryd.prog T H (.fn 11) [.p (.agg [.sl none 1 (List.map rowI a0.Ranks)]), .p (.agg [iv a1.States, .sl none 1 (List.map rowI a1.Final), .sl none 3 (List.map row_Rule a1.Rules)]), .p (.agg [iv a2.Sym, .sl none 2 (List.map row_Tree a2.Kids)])] [] = some (.ret (.p (.tup [.sl none 1 (List.map rowI r.1), iv r.2])), []) := by
  refine Sat.fn fun Q hQ => ?_
  unfold auto_States at h
  rw [call11]
  conv => arg 1; arg 7; unfold S03.c11 Tryd.f11; simp only [Option.getD_some]
  obtain ⟨v1, e_v1, h⟩ := ob h
  have e_v1c : call Tryd.prog T H (.fn 49) [.p (.agg [.sl none 1 (List.map rowI a0.Ranks)]), .p (.agg [iv a1.States, .sl none 1 (List.map rowI a1.Final), .sl none 3 (List.map row_Rule a1.Rules)]), .p (.agg [iv a2.Sym, .sl none 2 (List.map row_Tree a2.Kids)])] [] = some (.ret (.p (iv v1)), []) := spec49 n a0 a1 a2 v1 e_v1
  by_cases c1 : v1 = 0
  · have h := iteT h c1
    have c1b : (v1 != 0) = false := bneF c1
    obtain ⟨v2, e_v2, h⟩ := ob h
    have e_v2c : call Tryd.prog T H (.fn 51) [.p (.agg [.sl none 1 (List.map rowI a0.Ranks)]), .p (.agg [iv a1.States, .sl none 1 (List.map rowI a1.Final), .sl none 3 (List.map row_Rule a1.Rules)])] [] = some (.ret (.p (.sl none 1 (List.map (rowL 1 rowI) v2))), []) := spec51 a0 a1 v2 e_v2
    obtain ⟨v3, e_v3, h⟩ := ob h
    have e_v3c : call Tryd.prog T H (.fn 50) [.p (.agg [iv a1.States, .sl none 1 (List.map rowI a1.Final), .sl none 3 (List.map row_Rule a1.Rules)]), .p (.sl none 1 (List.map (rowL 1 rowI) v2)), .p (.agg [iv a2.Sym, .sl none 2 (List.map row_Tree a2.Kids)])] [] = some (.ret (.p (.sl none 1 (List.map (rowL 1 rowB) v3))), []) := spec50 n a1 v2 a2 v3 e_v3
    obtain ⟨v4, e_v4, h⟩ := ob h
    simp only [go_sem, e_v1c, c1b, e_v2c, e_v3c, e_v4]
    refine run_rangeL (c := L11_0) (live := [9, 26, 27, 28]) (by simp only [go_sem]) (M := fun i1 (s1 : (List Int)) => [(9, .own 1 (List.map rowI s1)), (26, .p (.sl none 1 (List.map rowB v4))), (27, .p (iv (v4.length : Int))), (28, .p (iv (i1 : Int)))]) (Z := fun i1 (s1 : (List Int)) => [.cells [.p (.sl none 1 (List.map rowI a0.Ranks))], .cells [.p (iv a1.States), .p (.sl none 1 (List.map rowI a1.Final)), .p (.sl none 3 (List.map row_Rule a1.Rules))], .cells [.p (iv a2.Sym), .p (.sl none 2 (List.map row_Tree a2.Kids))]]) (N := fun (s1 : (List Int)) => ⟨[(9, .own 1 (List.map rowI s1))], [.cells [.p (.sl none 1 (List.map rowI a0.Ranks))], .cells [.p (iv a1.States), .p (.sl none 1 (List.map rowI a1.Final)), .p (.sl none 3 (List.map row_Rule a1.Rules))], .cells [.p (iv a2.Sym), .p (.sl none 2 (List.map row_Tree a2.Kids))]], [], none, false⟩) h rfl rfl (fun _ _ => rfl) ?_ ?_ ?_
    · intro s1 h
      try dsimp only at h ⊢
      simp only [go_sem]
      injection h with h; subst h
      exact Sat.ok hQ
    · intro K1 s1 hb1 he1
      try dsimp only
      conv => arg 1; arg 7; unfold L11_0 loopAt S03.c11 Tryd.f11; simp only [loopIn, Option.getD_some, if_true]
      simp only [go_sem, he1]
      exact hb1
    · intro K1 k1 i1 x1 s1 n1 hR1 hE1 hb1 hx1 hi1 hw1 ih1 h
      try dsimp only at h ⊢
      conv => arg 1; arg 7; unfold L11_0 loopAt S03.c11 Tryd.f11; simp only [loopIn, Option.getD_some, if_true]
      by_cases c2 : x1 = true
      · have h := iteT h c2
        obtain ⟨v5, e_v5, h⟩ := ob h
        have e_v5a : boundOk (s1.length + 1) 8 = true := bnd_of (by have := (app_some e_v5).1; simpa using this) (by decide)
        have e_v5b : (List.map rowI s1) ++ [[iv (i1 : Int)]] = List.map rowI v5 := by rw [(app_some e_v5).2]; simp [rowI]
        simp only [go_sem, hx1, hi1, hw1, c2, e_v5a, e_v5b, hR1, hE1]
        exact ih1 v5 h
      · have h := iteF h c2
        have c2 := eq_false_of_ne_true c2
        simp only [go_sem, hx1, hi1, hw1, c2, hR1, hE1]
        exact ih1 s1 h
  · have h := iteF h c1
    have c1b : (v1 != 0) = true := bneT c1
    simp only [go_sem, e_v1c, c1b]
    injection h with h; subst h
    exact Sat.ok hQ

def auto_Final (a0 : Automaton) : Option (List Bool) :=
  (mkz 1 a0.States a0.States false).bind fun v1 =>
  rangeL a0.Final v1 (fun k1 i1 x1 (s1 : (List Bool)) n1 =>
    (idxM ((a0.States).toNat) s1 x1).bind fun v3 =>
    n1 (List.set s1 ((x1).toNat) true)) fun s1 =>
  (tkM ((a0.States).toNat) s1).bind fun v2 =>
  some v2
theorem spec54 (a0 : Automaton) (r : List Bool) (h : auto_Final a0 = some r) :
    call Tryd.prog T H (.fn 54) [.p (.agg [iv a0.States, .sl none 1 (List.map rowI a0.Final), .sl none 3 (List.map row_Rule a0.Rules)])] [] = some (.ret (.p (.sl none 1 (List.map rowB r))), []) := by
  refine Sat.fn fun Q hQ => ?_
  unfold auto_Final at h
  rw [call54]
  conv => arg 1; arg 7; unfold S03.c54 Tryd.f54; simp only [Option.getD_some]
  obtain ⟨v1, e_v1, h⟩ := ob h
  obtain ⟨e_v11, e_v12, e_v13, e_v14⟩ := mkz_some e_v1
  have e_v1b : boundOk (a0.States).toNat 1 = true := bnd_of e_v13 (by decide)
  have e_v1r : List.replicate (a0.States).toNat [AV.p (bv false)] = List.map (rowA rowB) v1 := by rw [e_v14]; exact rep_map (by first | rfl | simp only [go_sem, List.map_nil])
  simp only [go_sem, e_v11, e_v12, e_v1b, e_v1r]
  refine run_rangeL (c := L54_0) (live := [3, 10, 11, 12]) (by simp only [go_sem]) (M := fun i1 (s1 : (List Bool)) => [(3, .ms 1 0 1 0 ((a0.States).toNat)), (10, .p (.sl none 1 (List.map rowI a0.Final))), (11, .p (iv (a0.Final.length : Int))), (12, .p (iv (i1 : Int)))]) (Z := fun i1 (s1 : (List Bool)) => [.cells [.p (iv a0.States), .p (.sl none 1 (List.map rowI a0.Final)), .p (.sl none 3 (List.map row_Rule a0.Rules))], .arr 0 1 (List.map (rowA rowB) s1)]) (N := fun (s1 : (List Bool)) => ⟨[(3, .ms 1 0 1 0 ((a0.States).toNat))], [.cells [.p (iv a0.States), .p (.sl none 1 (List.map rowI a0.Final)), .p (.sl none 3 (List.map row_Rule a0.Rules))], .arr 0 1 (List.map (rowA rowB) s1)], [], none, false⟩) h rfl rfl (fun _ _ => rfl) ?_ ?_ ?_
  · intro s1 h
    try dsimp only at h ⊢
    obtain ⟨v2, e_v2, h⟩ := ob h
    have e_v2a := (tkM_some e_v2).1
    have e_v2b := (tkM_some e_v2).2
    simp only [go_sem, e_v2a, e_v2b]
    injection h with h; subst h
    exact Sat.ok hQ
  · intro K1 s1 hb1 he1
    try dsimp only
    conv => arg 1; arg 7; unfold L54_0 loopAt S03.c54 Tryd.f54; simp only [loopIn, Option.getD_some, if_true]
    simp only [go_sem, he1]
    exact hb1
  · intro K1 k1 i1 x1 s1 n1 hR1 hE1 hb1 hx1 hi1 hw1 ih1 h
    try dsimp only at h ⊢
    conv => arg 1; arg 7; unfold L54_0 loopAt S03.c54 Tryd.f54; simp only [loopIn, Option.getD_some, if_true]
    obtain ⟨v3, e_v3, h⟩ := ob h
    obtain ⟨e_v3a, e_v3b, e_v3d⟩ := idxM_some e_v3
    have e_y1 : List.set (List.map (rowA rowB) s1) ((x1).toNat) [.p (bv true)] = List.map (rowA rowB) (List.set s1 ((x1).toNat) true) := map_set' (by first | rfl | simp only [go_sem, List.map_cons, List.map_nil])
    simp only [go_sem, hx1, hi1, hw1, e_v3a, e_v3b, e_v3d, e_y1, hR1, hE1]
    exact ih1 (List.set s1 ((x1).toNat) true) h

def auto_Accepts (n : Nat) (a0 : Alphabet) (a1 : Automaton) (a2 : Tree) : Option (Bool × Int) :=
  (auto_States n a0 a1 a2).bind fun v1 =>
  if v1.2 = 0 then
    (auto_Final a1).bind fun v2 =>
    jn (fun (u1 : Int) =>
      some (decide (0 ≤ u1), 0)) fun j1 =>
    rangeL v1.1 () (fun k1 i1 x1 (s1 : Unit) n1 =>
      (idx v2 x1).bind fun v3 =>
      if v3 = true then
        j1 (i1 : Int)
      else
        n1 ()) fun s1 =>
    j1 (-1)
  else
    some (false, v1.2)
theorem spec13 (n : Nat) (a0 : Alphabet) (a1 : Automaton) (a2 : Tree) (r : Bool × Int) (h : auto_Accepts n a0 a1 a2 = some r) :
    call Tryd.prog T H (.fn 13) [.p (.agg [.sl none 1 (List.map rowI a0.Ranks)]), .p (.agg [iv a1.States, .sl none 1 (List.map rowI a1.Final), .sl none 3 (List.map row_Rule a1.Rules)]), .p (.agg [iv a2.Sym, .sl none 2 (List.map row_Tree a2.Kids)])] [] = some (.ret (.p (.tup [bv r.1, iv r.2])), []) := by
  refine Sat.fn fun Q hQ => ?_
  unfold auto_Accepts at h
  rw [call13]
  conv => arg 1; arg 7; unfold S03.c13 Tryd.f13; simp only [Option.getD_some]
  obtain ⟨v1, e_v1, h⟩ := ob h
  have e_v1c : call Tryd.prog T H (.fn 11) [.p (.agg [.sl none 1 (List.map rowI a0.Ranks)]), .p (.agg [iv a1.States, .sl none 1 (List.map rowI a1.Final), .sl none 3 (List.map row_Rule a1.Rules)]), .p (.agg [iv a2.Sym, .sl none 2 (List.map row_Tree a2.Kids)])] [] = some (.ret (.p (.tup [.sl none 1 (List.map rowI v1.1), iv v1.2])), []) := spec11 n a0 a1 a2 v1 e_v1
  by_cases c1 : v1.2 = 0
  · have h := iteT h c1
    have c1b : (v1.2 != 0) = false := bneF c1
    obtain ⟨v2, e_v2, h⟩ := ob h
    have e_v2c : call Tryd.prog T H (.fn 54) [.p (.agg [iv a1.States, .sl none 1 (List.map rowI a1.Final), .sl none 3 (List.map row_Rule a1.Rules)])] [] = some (.ret (.p (.sl none 1 (List.map rowB v2))), []) := spec54 a1 v2 e_v2
    simp only [go_sem, e_v1c, c1b, e_v2c]
    refine Sat.callc ?_
    rw [call55]
    conv => arg 1; arg 7; unfold S03.c55 Tryd.f55; simp only [Option.getD_some]
    simp only [go_sem]
    refine Sat.callj (V := fun (u1 : Int) => .p (iv u1)) (Z := fun (u1 : Int) => [.cells [.p (.sl none 1 (List.map rowI a0.Ranks))], .cells [.p (iv a1.States), .p (.sl none 1 (List.map rowI a1.Final)), .p (.sl none 3 (List.map row_Rule a1.Rules))], .cells [.p (iv a2.Sym), .p (.sl none 2 (List.map row_Tree a2.Kids))], .cells [.p (.sl none 1 (List.map rowB v2))]]) h ?_ ?_
    · intro u1 h
      try dsimp only at h ⊢
      simp only [go_sem]
      refine Sat.ok ?_
      dsimp only
      simp only [go_sem]
      injection h with h; subst h
      exact Sat.ok hQ
    · intro j1 h
      rw [call81]
      conv => arg 1; arg 7; unfold S03.c81 Tryd.f81; simp only [Option.getD_some]
      simp only [go_sem]
      refine run_rangeL (c := L81_0) (live := [0, 1, 7, 8]) (by simp only [go_sem]) (M := fun i1 (s1 : Unit) => [(0, .p (.sl none 1 (List.map rowI v1.1))), (1, .fn 56 [.ptr 3 0]), (7, .p (iv (v1.1.length : Int))), (8, .p (iv (i1 : Int)))]) (Z := fun i1 (s1 : Unit) => [.cells [.p (.sl none 1 (List.map rowI a0.Ranks))], .cells [.p (iv a1.States), .p (.sl none 1 (List.map rowI a1.Final)), .p (.sl none 3 (List.map row_Rule a1.Rules))], .cells [.p (iv a2.Sym), .p (.sl none 2 (List.map row_Tree a2.Kids))], .cells [.p (.sl none 1 (List.map rowB v2))]]) (N := fun (s1 : Unit) => ⟨[], [.cells [.p (.sl none 1 (List.map rowI a0.Ranks))], .cells [.p (iv a1.States), .p (.sl none 1 (List.map rowI a1.Final)), .p (.sl none 3 (List.map row_Rule a1.Rules))], .cells [.p (iv a2.Sym), .p (.sl none 2 (List.map row_Tree a2.Kids))], .cells [.p (.sl none 1 (List.map rowB v2))]], [], none, false⟩) h rfl rfl (fun _ _ => rfl) ?_ ?_ ?_
      · intro s1 h
        try dsimp only at h ⊢
        simp only [go_sem]
        exact Sat.ok ⟨(-1), rfl, h⟩
      · intro K1 s1 hb1 he1
        try dsimp only
        conv => arg 1; arg 7; unfold L81_0 loopAt S03.c81 Tryd.f81; simp only [loopIn, Option.getD_some, if_true]
        simp only [go_sem, he1]
        exact hb1
      · intro K1 k1 i1 x1 s1 n1 hR1 hE1 hb1 hx1 hi1 hw1 ih1 h
        try dsimp only at h ⊢
        conv => arg 1; arg 7; unfold L81_0 loopAt S03.c81 Tryd.f81; simp only [loopIn, Option.getD_some, if_true]
        simp only [go_sem, hx1, hi1, hw1, hR1, hE1]
        refine Sat.callc ?_
        rw [call56]
        conv => arg 1; arg 7; unfold S03.c56 Tryd.f56; simp only [Option.getD_some]
        obtain ⟨v3, e_v3, h⟩ := ob h
        obtain ⟨e_v3a, e_v3b⟩ := idx_some e_v3
        simp only [go_sem, e_v3a, e_v3b, hw1, hR1, hE1]
        refine Sat.ok ?_
        dsimp only
        by_cases c2 : v3 = true
        · have h := iteT h c2
          simp only [go_sem, c2, hw1, hR1, hE1]
          exact Sat.ok ⟨(i1 : Int), rfl, h⟩
        · have h := iteF h c2
          have c2 := eq_false_of_ne_true c2
          simp only [go_sem, c2, hw1, hR1, hE1]
          exact ih1 () h
  · have h := iteF h c1
    have c1b : (v1.2 != 0) = true := bneT c1
    simp only [go_sem, e_v1c, c1b]
    injection h with h; subst h
    exact Sat.ok hQ

def law03_even  : Option Automaton :=
  some (Automaton.mk 2 [1] [(Rule.mk 0 ([] : List Int) 0), (Rule.mk 1 [0, 0] 1), (Rule.mk 1 [1, 1] 0)])
theorem spec46  (r : Automaton) (h : law03_even = some r) :
    call Tryd.prog T H (.fn 46) [] [] = some (.ret (.p (.agg [iv r.States, .sl none 1 (List.map rowI r.Final), .sl none 3 (List.map row_Rule r.Rules)])), []) := by
  refine Sat.fn fun Q hQ => ?_
  unfold law03_even at h
  rw [call46]
  conv => arg 1; arg 7; unfold S03.c46 Tryd.f46; simp only [Option.getD_some]
  simp only [go_sem]
  injection h with h; subst h
  simp only [List.map_cons, List.map_nil, rowI, row_Rule_eq] at hQ
  exact Sat.ok hQ

def law03_f (a0 : Tree) (a1 : Tree) : Option Tree :=
  some (Tree.mk 1 [a0, a1])
theorem spec47 (a0 : Tree) (a1 : Tree) (r : Tree) (h : law03_f a0 a1 = some r) :
    call Tryd.prog T H (.fn 47) [.p (.agg [iv a0.Sym, .sl none 2 (List.map row_Tree a0.Kids)]), .p (.agg [iv a1.Sym, .sl none 2 (List.map row_Tree a1.Kids)])] [] = some (.ret (.p (.agg [iv r.Sym, .sl none 2 (List.map row_Tree r.Kids)])), []) := by
  refine Sat.fn fun Q hQ => ?_
  unfold law03_f at h
  rw [call47]
  conv => arg 1; arg 7; unfold S03.c47 Tryd.f47; simp only [Option.getD_some]
  simp only [go_sem]
  injection h with h; subst h
  simp only [List.map_cons, List.map_nil, row_Tree_eq] at hQ
  exact Sat.ok hQ

def law03_leaf  : Option Tree :=
  some (Tree.mk 0 ([] : List Tree))
theorem spec48  (r : Tree) (h : law03_leaf = some r) :
    call Tryd.prog T H (.fn 48) [] [] = some (.ret (.p (.agg [iv r.Sym, .sl none 2 (List.map row_Tree r.Kids)])), []) := by
  refine Sat.fn fun Q hQ => ?_
  unfold law03_leaf at h
  rw [call48]
  conv => arg 1; arg 7; unfold S03.c48 Tryd.f48; simp only [Option.getD_some]
  simp only [go_sem]
  injection h with h; subst h
  exact Sat.ok hQ

def law03_awake (n : Nat)  : Option Bool :=
  (law03_even).bind fun v1 =>
  (law03_leaf).bind fun v2 =>
  (law03_f v2 v2).bind fun v3 =>
  (auto_Accepts n (Alphabet.mk [0, 2]) v1 v3).bind fun v4 =>
  (law03_f v2 v3).bind fun v5 =>
  (auto_Accepts n (Alphabet.mk [0, 2]) v1 v5).bind fun v6 =>
  if v4.1 = true then
    if v4.2 = 0 then
      if v6.1 = true then
        some false
      else
        some (v6.2 == 0)
    else
      some false
  else
    some false
theorem spec10 (n : Nat)  (r : Bool) (h : law03_awake n = some r) :
    call Tryd.prog T H (.fn 10) [] [] = some (.ret (.p (bv r)), []) := by
  refine Sat.fn fun Q hQ => ?_
  unfold law03_awake at h
  rw [call10]
  conv => arg 1; arg 7; unfold S03.c10 Tryd.f10; simp only [Option.getD_some]
  obtain ⟨v1, e_v1, h⟩ := ob h
  have e_v1c : call Tryd.prog T H (.fn 46) [] [] = some (.ret (.p (.agg [iv v1.States, .sl none 1 (List.map rowI v1.Final), .sl none 3 (List.map row_Rule v1.Rules)])), []) := spec46 v1 e_v1
  obtain ⟨v2, e_v2, h⟩ := ob h
  have e_v2c : call Tryd.prog T H (.fn 48) [] [] = some (.ret (.p (.agg [iv v2.Sym, .sl none 2 (List.map row_Tree v2.Kids)])), []) := spec48 v2 e_v2
  obtain ⟨v3, e_v3, h⟩ := ob h
  have e_v3c : call Tryd.prog T H (.fn 47) [.p (.agg [iv v2.Sym, .sl none 2 (List.map row_Tree v2.Kids)]), .p (.agg [iv v2.Sym, .sl none 2 (List.map row_Tree v2.Kids)])] [] = some (.ret (.p (.agg [iv v3.Sym, .sl none 2 (List.map row_Tree v3.Kids)])), []) := spec47 v2 v2 v3 e_v3
  obtain ⟨v4, e_v4, h⟩ := ob h
  have e_v4c : call Tryd.prog T H (.fn 13) [.p (.agg [.sl none 1 [[iv 0], [iv 2]]]), .p (.agg [iv v1.States, .sl none 1 (List.map rowI v1.Final), .sl none 3 (List.map row_Rule v1.Rules)]), .p (.agg [iv v3.Sym, .sl none 2 (List.map row_Tree v3.Kids)])] [] = some (.ret (.p (.tup [bv v4.1, iv v4.2])), []) := by have q := spec13 n (Alphabet.mk [0, 2]) v1 v3 v4 e_v4; simp only [List.map_cons, List.map_nil, rowI] at q ⊢; exact q
  obtain ⟨v5, e_v5, h⟩ := ob h
  have e_v5c : call Tryd.prog T H (.fn 47) [.p (.agg [iv v2.Sym, .sl none 2 (List.map row_Tree v2.Kids)]), .p (.agg [iv v3.Sym, .sl none 2 (List.map row_Tree v3.Kids)])] [] = some (.ret (.p (.agg [iv v5.Sym, .sl none 2 (List.map row_Tree v5.Kids)])), []) := spec47 v2 v3 v5 e_v5
  obtain ⟨v6, e_v6, h⟩ := ob h
  have e_v6c : call Tryd.prog T H (.fn 13) [.p (.agg [.sl none 1 [[iv 0], [iv 2]]]), .p (.agg [iv v1.States, .sl none 1 (List.map rowI v1.Final), .sl none 3 (List.map row_Rule v1.Rules)]), .p (.agg [iv v5.Sym, .sl none 2 (List.map row_Tree v5.Kids)])] [] = some (.ret (.p (.tup [bv v6.1, iv v6.2])), []) := by have q := spec13 n (Alphabet.mk [0, 2]) v1 v5 v6 e_v6; simp only [List.map_cons, List.map_nil, rowI] at q ⊢; exact q
  by_cases c1 : v4.1 = true
  · have h := iteT h c1
    by_cases c2 : v4.2 = 0
    · have h := iteT h c2
      have c2b : (v4.2 == 0) = true := beqT c2
      by_cases c3 : v6.1 = true
      · have h := iteT h c3
        simp only [go_sem, e_v1c, e_v2c, e_v3c, e_v4c, e_v5c, e_v6c, c1, c2b, c3]
        injection h with h; subst h
        exact Sat.ok hQ
      · have h := iteF h c3
        have c3 := eq_false_of_ne_true c3
        simp only [go_sem, e_v1c, e_v2c, e_v3c, e_v4c, e_v5c, e_v6c, c1, c2b, c3]
        injection h with h; subst h
        exact Sat.ok hQ
    · have h := iteF h c2
      have c2b : (v4.2 == 0) = false := beqF c2
      simp only [go_sem, e_v1c, e_v2c, e_v3c, e_v4c, e_v5c, e_v6c, c1, c2b]
      injection h with h; subst h
      exact Sat.ok hQ
  · have h := iteF h c1
    have c1 := eq_false_of_ne_true c1
    simp only [go_sem, e_v1c, e_v2c, e_v3c, e_v4c, e_v5c, e_v6c, c1]
    injection h with h; subst h
    exact Sat.ok hQ

def ref01_ValidAlphabet (a0 : Alphabet) : Option Bool :=
  if 12 < (a0.Ranks.length : Int) then
    some false
  else
    rangeL a0.Ranks () (fun k1 i1 x1 (s1 : Unit) n1 =>
      if x1 < 0 then
        some false
      else
        if 3 < x1 then
          some false
        else
          n1 ()) fun s1 =>
    some true
theorem spec57 (a0 : Alphabet) (r : Bool) (h : ref01_ValidAlphabet a0 = some r) :
    call Tryd.prog T H (.fn 57) [.p (.agg [.sl none 1 (List.map rowI a0.Ranks)])] [] = some (.ret (.p (bv r)), []) := by
  refine Sat.fn fun Q hQ => ?_
  unfold ref01_ValidAlphabet at h
  rw [call57]
  conv => arg 1; arg 7; unfold S03.c57 Tryd.f57; simp only [Option.getD_some]
  by_cases c1 : 12 < (a0.Ranks.length : Int)
  · have h := iteT h c1
    simp only [go_sem, c1]
    injection h with h; subst h
    exact Sat.ok hQ
  · have h := iteF h c1
    simp only [go_sem, c1]
    refine run_rangeL (c := L57_0) (live := [10, 11, 12]) (by simp only [go_sem]) (M := fun i1 (s1 : Unit) => [(10, .p (.sl none 1 (List.map rowI a0.Ranks))), (11, .p (iv (a0.Ranks.length : Int))), (12, .p (iv (i1 : Int)))]) (Z := fun i1 (s1 : Unit) => [.cells [.p (.sl none 1 (List.map rowI a0.Ranks))]]) (N := fun (s1 : Unit) => ⟨[], [.cells [.p (.sl none 1 (List.map rowI a0.Ranks))]], [], none, false⟩) h rfl rfl (fun _ _ => rfl) ?_ ?_ ?_
    · intro s1 h
      try dsimp only at h ⊢
      simp only [go_sem]
      injection h with h; subst h
      exact Sat.ok hQ
    · intro K1 s1 hb1 he1
      try dsimp only
      conv => arg 1; arg 7; unfold L57_0 loopAt S03.c57 Tryd.f57; simp only [loopIn, Option.getD_some, if_true]
      simp only [go_sem, he1]
      exact hb1
    · intro K1 k1 i1 x1 s1 n1 hR1 hE1 hb1 hx1 hi1 hw1 ih1 h
      try dsimp only at h ⊢
      conv => arg 1; arg 7; unfold L57_0 loopAt S03.c57 Tryd.f57; simp only [loopIn, Option.getD_some, if_true]
      by_cases c2 : x1 < 0
      · have h := iteT h c2
        simp only [go_sem, hx1, hi1, hw1, c2, hR1, hE1]
        injection h with h; subst h
        exact Sat.ok hQ
      · have h := iteF h c2
        by_cases c3 : 3 < x1
        · have h := iteT h c3
          simp only [go_sem, hx1, hi1, hw1, c2, c3, hR1, hE1]
          injection h with h; subst h
          exact Sat.ok hQ
        · have h := iteF h c3
          simp only [go_sem, hx1, hi1, hw1, c2, c3, hR1, hE1]
          exact ih1 () h

def ref01_shaped : Nat → Alphabet → Tree → Option Bool
  | 0, _, _ => none
  | n + 1, a0, a1 =>
    if a1.Sym < 0 then
      some false
    else
      if (a0.Ranks.length : Int) ≤ a1.Sym then
        some false
      else
        (idx a0.Ranks a1.Sym).bind fun v1 =>
        if (a1.Kids.length : Int) = v1 then
          rangeL a1.Kids () (fun k1 i1 x1 (s1 : Unit) n1 =>
            (ref01_shaped n a0 x1).bind fun v2 =>
            if v2 = true then
              n1 ()
            else
              some false) fun s1 =>
          some true
        else
          some false
theorem spec58 : ∀ (n : Nat), (∀ (a0 : Alphabet) (a1 : Tree) (r : Bool), ref01_shaped n a0 a1 = some r →
    call Tryd.prog T H (.fn 58) [.p (.agg [.sl none 1 (List.map rowI a0.Ranks)]), .p (.agg [iv a1.Sym, .sl none 2 (List.map row_Tree a1.Kids)])] [] = some (.ret (.p (bv r)), [])) := by
  intro n
  induction n with
  | zero => intro a0 a1 r h; cases h
  | succ n ih =>
    intro a0 a1 r h
    refine Sat.fn fun Q hQ => ?_
    rw [ref01_shaped] at h
    rw [call58]
    conv => arg 1; arg 7; unfold S03.c58 Tryd.f58; simp only [Option.getD_some]
    by_cases c1 : a1.Sym < 0
    · have h := iteT h c1
      simp only [go_sem, c1]
      injection h with h; subst h
      exact Sat.ok hQ
    · have h := iteF h c1
      by_cases c2 : (a0.Ranks.length : Int) ≤ a1.Sym
      · have h := iteT h c2
        simp only [go_sem, c1, c2]
        injection h with h; subst h
        exact Sat.ok hQ
      · have h := iteF h c2
        obtain ⟨v1, e_v1, h⟩ := ob h
        obtain ⟨e_v1a, e_v1b⟩ := idx_some e_v1
        by_cases c3 : (a1.Kids.length : Int) = v1
        · have h := iteT h c3
          have c3b : ((a1.Kids.length : Int) != v1) = false := bneF c3
          simp only [go_sem, c1, c2, e_v1a, e_v1b, c3b]
          refine run_rangeL (c := L58_0) (live := [2, 31, 32, 33]) (by simp only [go_sem]) (M := fun i1 (s1 : Unit) => [(2, .ptr 0 0), (31, .p (.sl none 2 (List.map row_Tree a1.Kids))), (32, .p (iv (a1.Kids.length : Int))), (33, .p (iv (i1 : Int)))]) (Z := fun i1 (s1 : Unit) => [.cells [.p (.sl none 1 (List.map rowI a0.Ranks))], .cells [.p (iv a1.Sym), .p (.sl none 2 (List.map row_Tree a1.Kids))]]) (N := fun (s1 : Unit) => ⟨[], [.cells [.p (.sl none 1 (List.map rowI a0.Ranks))], .cells [.p (iv a1.Sym), .p (.sl none 2 (List.map row_Tree a1.Kids))]], [], none, false⟩) h rfl rfl (fun _ _ => rfl) ?_ ?_ ?_
          · intro s1 h
            try dsimp only at h ⊢
            simp only [go_sem]
            injection h with h; subst h
            exact Sat.ok hQ
          · intro K1 s1 hb1 he1
            try dsimp only
            conv => arg 1; arg 7; unfold L58_0 loopAt S03.c58 Tryd.f58; simp only [loopIn, Option.getD_some, if_true]
            simp only [go_sem, he1]
            exact hb1
          · intro K1 k1 i1 x1 s1 n1 hR1 hE1 hb1 hx1 hi1 hw1 ih1 h
            try dsimp only at h ⊢
            conv => arg 1; arg 7; unfold L58_0 loopAt S03.c58 Tryd.f58; simp only [loopIn, Option.getD_some, if_true]
            obtain ⟨v2, e_v2, h⟩ := ob h
            have e_v2c : call Tryd.prog T H (.fn 58) [.p (.agg [.sl none 1 (List.map rowI a0.Ranks)]), .p (.agg [iv x1.Sym, .sl none 2 (List.map row_Tree x1.Kids)])] [] = some (.ret (.p (bv v2)), []) := ih a0 x1 v2 e_v2
            by_cases c4 : v2 = true
            · have h := iteT h c4
              simp only [go_sem, hx1, hi1, hw1, e_v2c, c4, hR1, hE1]
              exact ih1 () h
            · have h := iteF h c4
              have c4 := eq_false_of_ne_true c4
              simp only [go_sem, hx1, hi1, hw1, e_v2c, c4, hR1, hE1]
              injection h with h; subst h
              exact Sat.ok hQ
        · have h := iteF h c3
          have c3b : ((a1.Kids.length : Int) != v1) = true := bneT c3
          simp only [go_sem, c1, c2, e_v1a, e_v1b, c3b]
          injection h with h; subst h
          exact Sat.ok hQ

def ref01_Valid (n : Nat) (a0 : Alphabet) (a1 : Tree) : Option Bool :=
  (ref01_ValidAlphabet a0).bind fun v1 =>
  if v1 = true then
    (ref01_Few n a1 300).bind fun v2 =>
    if v2 = true then
      (ref01_shaped n a0 a1).bind fun v3 =>
      some v3
    else
      some false
  else
    some false
theorem spec16 (n : Nat) (a0 : Alphabet) (a1 : Tree) (r : Bool) (h : ref01_Valid n a0 a1 = some r) :
    call Tryd.prog T H (.fn 16) [.p (.agg [.sl none 1 (List.map rowI a0.Ranks)]), .p (.agg [iv a1.Sym, .sl none 2 (List.map row_Tree a1.Kids)])] [] = some (.ret (.p (bv r)), []) := by
  refine Sat.fn fun Q hQ => ?_
  unfold ref01_Valid at h
  rw [call16]
  conv => arg 1; arg 7; unfold S03.c16 Tryd.f16; simp only [Option.getD_some]
  obtain ⟨v1, e_v1, h⟩ := ob h
  have e_v1c : call Tryd.prog T H (.fn 57) [.p (.agg [.sl none 1 (List.map rowI a0.Ranks)])] [] = some (.ret (.p (bv v1)), []) := spec57 a0 v1 e_v1
  by_cases c1 : v1 = true
  · have h := iteT h c1
    obtain ⟨v2, e_v2, h⟩ := ob h
    have e_v2c : call Tryd.prog T H (.fn 20) [.p (.agg [iv a1.Sym, .sl none 2 (List.map row_Tree a1.Kids)]), .p (iv 300)] [] = some (.ret (.p (bv v2)), []) := spec20 n a1 300 v2 e_v2
    by_cases c2 : v2 = true
    · have h := iteT h c2
      obtain ⟨v3, e_v3, h⟩ := ob h
      have e_v3c : call Tryd.prog T H (.fn 58) [.p (.agg [.sl none 1 (List.map rowI a0.Ranks)]), .p (.agg [iv a1.Sym, .sl none 2 (List.map row_Tree a1.Kids)])] [] = some (.ret (.p (bv v3)), []) := spec58 n a0 a1 v3 e_v3
      simp only [go_sem, e_v1c, c1, e_v2c, c2, e_v3c]
      injection h with h; subst h
      exact Sat.ok hQ
    · have h := iteF h c2
      have c2 := eq_false_of_ne_true c2
      simp only [go_sem, e_v1c, c1, e_v2c, c2]
      injection h with h; subst h
      exact Sat.ok hQ
  · have h := iteF h c1
    have c1 := eq_false_of_ne_true c1
    simp only [go_sem, e_v1c, c1]
    injection h with h; subst h
    exact Sat.ok hQ

def ref03_Valid (a0 : Alphabet) (a1 : Automaton) : Option Bool :=
  (ref01_ValidAlphabet a0).bind fun v1 =>
  if v1 = true then
    if a1.States < 0 then
      some false
    else
      if 300 < a1.States then
        some false
      else
        if 20000 < (a1.Rules.length : Int) then
          some false
        else
          rangeL a1.Final () (fun k1 i1 x1 (s1 : Unit) n1 =>
            if x1 < 0 then
              some false
            else
              if a1.States ≤ x1 then
                some false
              else
                if 0 < (i1 : Int) then
                  (idx a1.Final (w64 ((i1 : Int) - 1))).bind fun v3 =>
                  if x1 ≤ v3 then
                    some false
                  else
                    n1 ()
                else
                  n1 ()) fun s1 =>
          rangeL a1.Rules () (fun k3 i3 x3 (s3 : Unit) n3 =>
            if x3.Sym < 0 then
              some false
            else
              if (a0.Ranks.length : Int) ≤ x3.Sym then
                some false
              else
                (idx a0.Ranks x3.Sym).bind fun v2 =>
                if (x3.From.length : Int) = v2 then
                  if x3.To < 0 then
                    some false
                  else
                    if a1.States ≤ x3.To then
                      some false
                    else
                      rangeL x3.From () (fun k4 i4 x4 (s4 : Unit) n4 =>
                        if x4 < 0 then
                          some false
                        else
                          if a1.States ≤ x4 then
                            some false
                          else
                            n4 ()) fun s4 =>
                      n3 ()
                else
                  some false) fun s3 =>
          some true
  else
    some false
theorem spec22 (a0 : Alphabet) (a1 : Automaton) (r : Bool) (h : ref03_Valid a0 a1 = some r) :
    call Tryd.prog T H (.fn 22) [.p (.agg [.sl none 1 (List.map rowI a0.Ranks)]), .p (.agg [iv a1.States, .sl none 1 (List.map rowI a1.Final), .sl none 3 (List.map row_Rule a1.Rules)])] [] = some (.ret (.p (bv r)), []) := by
  refine Sat.fn fun Q hQ => ?_
  unfold ref03_Valid at h
  rw [call22]
  conv => arg 1; arg 7; unfold S03.c22 Tryd.f22; simp only [Option.getD_some]
  obtain ⟨v1, e_v1, h⟩ := ob h
  have e_v1c : call Tryd.prog T H (.fn 57) [.p (.agg [.sl none 1 (List.map rowI a0.Ranks)])] [] = some (.ret (.p (bv v1)), []) := spec57 a0 v1 e_v1
  by_cases c1 : v1 = true
  · have h := iteT h c1
    by_cases c2 : a1.States < 0
    · have h := iteT h c2
      simp only [go_sem, e_v1c, c1, c2]
      injection h with h; subst h
      exact Sat.ok hQ
    · have h := iteF h c2
      by_cases c3 : 300 < a1.States
      · have h := iteT h c3
        simp only [go_sem, e_v1c, c1, c2, c3]
        injection h with h; subst h
        exact Sat.ok hQ
      · have h := iteF h c3
        by_cases c4 : 20000 < (a1.Rules.length : Int)
        · have h := iteT h c4
          simp only [go_sem, e_v1c, c1, c2, c3, c4]
          injection h with h; subst h
          exact Sat.ok hQ
        · have h := iteF h c4
          simp only [go_sem, e_v1c, c1, c2, c3, c4]
          refine run_rangeL (c := L22_0) (live := [2, 3, 31, 32, 33]) (by simp only [go_sem]) (M := fun i1 (s1 : Unit) => [(2, .ptr 0 0), (3, .ptr 1 0), (31, .p (.sl none 1 (List.map rowI a1.Final))), (32, .p (iv (a1.Final.length : Int))), (33, .p (iv (i1 : Int)))]) (Z := fun i1 (s1 : Unit) => [.cells [.p (.sl none 1 (List.map rowI a0.Ranks))], .cells [.p (iv a1.States), .p (.sl none 1 (List.map rowI a1.Final)), .p (.sl none 3 (List.map row_Rule a1.Rules))]]) (N := fun (s1 : Unit) => ⟨[(2, .ptr 0 0), (3, .ptr 1 0)], [.cells [.p (.sl none 1 (List.map rowI a0.Ranks))], .cells [.p (iv a1.States), .p (.sl none 1 (List.map rowI a1.Final)), .p (.sl none 3 (List.map row_Rule a1.Rules))]], [], none, false⟩) h rfl rfl (fun _ _ => rfl) ?_ ?_ ?_
          · intro s1 h
            try dsimp only at h ⊢
            simp only [go_sem]
            refine run_rangeL (c := L22_2) (live := [2, 3, 62, 63, 64]) (by simp only [go_sem]) (M := fun i3 (s3 : Unit) => [(2, .ptr 0 0), (3, .ptr 1 0), (62, .p (.sl none 3 (List.map row_Rule a1.Rules))), (63, .p (iv (a1.Rules.length : Int))), (64, .p (iv (i3 : Int)))]) (Z := fun i3 (s3 : Unit) => [.cells [.p (.sl none 1 (List.map rowI a0.Ranks))], .cells [.p (iv a1.States), .p (.sl none 1 (List.map rowI a1.Final)), .p (.sl none 3 (List.map row_Rule a1.Rules))]]) (N := fun (s3 : Unit) => ⟨[], [.cells [.p (.sl none 1 (List.map rowI a0.Ranks))], .cells [.p (iv a1.States), .p (.sl none 1 (List.map rowI a1.Final)), .p (.sl none 3 (List.map row_Rule a1.Rules))]], [], none, false⟩) h rfl rfl (fun _ _ => rfl) ?_ ?_ ?_
            · intro s3 h
              try dsimp only at h ⊢
              simp only [go_sem]
              injection h with h; subst h
              exact Sat.ok hQ
            · intro K3 s3 hb3 he3
              try dsimp only
              conv => arg 1; arg 7; unfold L22_2 loopAt S03.c22 Tryd.f22; simp only [loopIn, Option.getD_some, if_true]
              simp only [go_sem, he3]
              exact hb3
            · intro K3 k3 i3 x3 s3 n3 hR3 hE3 hb3 hx3 hi3 hw3 ih3 h
              try dsimp only at h ⊢
              conv => arg 1; arg 7; unfold L22_2 loopAt S03.c22 Tryd.f22; simp only [loopIn, Option.getD_some, if_true]
              by_cases c5 : x3.Sym < 0
              · have h := iteT h c5
                simp only [go_sem, hx3, hi3, hw3, c5, hR3, hE3]
                injection h with h; subst h
                exact Sat.ok hQ
              · have h := iteF h c5
                by_cases c6 : (a0.Ranks.length : Int) ≤ x3.Sym
                · have h := iteT h c6
                  simp only [go_sem, hx3, hi3, hw3, c5, c6, hR3, hE3]
                  injection h with h; subst h
                  exact Sat.ok hQ
                · have h := iteF h c6
                  obtain ⟨v2, e_v2, h⟩ := ob h
                  obtain ⟨e_v2a, e_v2b⟩ := idx_some e_v2
                  by_cases c7 : (x3.From.length : Int) = v2
                  · have h := iteT h c7
                    have c7b : ((x3.From.length : Int) != v2) = false := bneF c7
                    by_cases c8 : x3.To < 0
                    · have h := iteT h c8
                      simp only [go_sem, hx3, hi3, hw3, c5, c6, e_v2a, e_v2b, c7b, c8, hR3, hE3]
                      injection h with h; subst h
                      exact Sat.ok hQ
                    · have h := iteF h c8
                      by_cases c9 : a1.States ≤ x3.To
                      · have h := iteT h c9
                        simp only [go_sem, hx3, hi3, hw3, c5, c6, e_v2a, e_v2b, c7b, c8, c9, hR3, hE3]
                        injection h with h; subst h
                        exact Sat.ok hQ
                      · have h := iteF h c9
                        simp only [go_sem, hx3, hi3, hw3, c5, c6, e_v2a, e_v2b, c7b, c8, c9, hR3, hE3]
                        refine run_rangeL (c := L22_4) (live := [2, 3, 62, 63, 64, 104, 105, 106]) (by simp only [go_sem]) (M := fun i4 (s4 : Unit) => [(2, .ptr 0 0), (3, .ptr 1 0), (62, .p (.sl none 3 (List.map row_Rule a1.Rules))), (63, .p (iv (a1.Rules.length : Int))), (64, .p (iv (i3 : Int))), (104, .p (.sl none 1 (List.map rowI x3.From))), (105, .p (iv (x3.From.length : Int))), (106, .p (iv (i4 : Int)))]) (Z := fun i4 (s4 : Unit) => [.cells [.p (.sl none 1 (List.map rowI a0.Ranks))], .cells [.p (iv a1.States), .p (.sl none 1 (List.map rowI a1.Final)), .p (.sl none 3 (List.map row_Rule a1.Rules))], .cells [.p (iv x3.Sym), .p (.sl none 1 (List.map rowI x3.From)), .p (iv x3.To)]]) (N := fun (s4 : Unit) => ⟨[(2, .ptr 0 0), (3, .ptr 1 0), (62, .p (.sl none 3 (List.map row_Rule a1.Rules))), (63, .p (iv (a1.Rules.length : Int))), (64, .p (iv (i3 : Int)))], [.cells [.p (.sl none 1 (List.map rowI a0.Ranks))], .cells [.p (iv a1.States), .p (.sl none 1 (List.map rowI a1.Final)), .p (.sl none 3 (List.map row_Rule a1.Rules))], .cells [.p (iv x3.Sym), .p (.sl none 1 (List.map rowI x3.From)), .p (iv x3.To)]], [], none, false⟩) h rfl rfl (fun _ _ => rfl) ?_ ?_ ?_
                        · intro s4 h
                          try dsimp only at h ⊢
                          simp only [go_sem, hw3, hR3, hE3]
                          exact ih3 () h
                        · intro K4 s4 hb4 he4
                          try dsimp only
                          conv => arg 1; arg 7; unfold L22_4 loopAt S03.c22 Tryd.f22; simp only [loopIn, Option.getD_some, if_true]
                          simp only [go_sem, he4]
                          exact hb4
                        · intro K4 k4 i4 x4 s4 n4 hR4 hE4 hb4 hx4 hi4 hw4 ih4 h
                          try dsimp only at h ⊢
                          conv => arg 1; arg 7; unfold L22_4 loopAt S03.c22 Tryd.f22; simp only [loopIn, Option.getD_some, if_true]
                          by_cases c10 : x4 < 0
                          · have h := iteT h c10
                            simp only [go_sem, hx4, hi4, hw4, c10, hw3, hR3, hE3, hR4, hE4]
                            injection h with h; subst h
                            exact Sat.ok hQ
                          · have h := iteF h c10
                            by_cases c11 : a1.States ≤ x4
                            · have h := iteT h c11
                              simp only [go_sem, hx4, hi4, hw4, c10, c11, hw3, hR3, hE3, hR4, hE4]
                              injection h with h; subst h
                              exact Sat.ok hQ
                            · have h := iteF h c11
                              simp only [go_sem, hx4, hi4, hw4, c10, c11, hw3, hR3, hE3, hR4, hE4]
                              exact ih4 () h
                  · have h := iteF h c7
                    have c7b : ((x3.From.length : Int) != v2) = true := bneT c7
                    simp only [go_sem, hx3, hi3, hw3, c5, c6, e_v2a, e_v2b, c7b, hR3, hE3]
                    injection h with h; subst h
                    exact Sat.ok hQ
          · intro K1 s1 hb1 he1
            try dsimp only
            conv => arg 1; arg 7; unfold L22_0 loopAt S03.c22 Tryd.f22; simp only [loopIn, Option.getD_some, if_true]
            simp only [go_sem, he1]
            exact hb1
          · intro K1 k1 i1 x1 s1 n1 hR1 hE1 hb1 hx1 hi1 hw1 ih1 h
            try dsimp only at h ⊢
            conv => arg 1; arg 7; unfold L22_0 loopAt S03.c22 Tryd.f22; simp only [loopIn, Option.getD_some, if_true]
            by_cases c12 : x1 < 0
            · have h := iteT h c12
              simp only [go_sem, hx1, hi1, hw1, c12, hR1, hE1]
              injection h with h; subst h
              exact Sat.ok hQ
            · have h := iteF h c12
              by_cases c13 : a1.States ≤ x1
              · have h := iteT h c13
                simp only [go_sem, hx1, hi1, hw1, c12, c13, hR1, hE1]
                injection h with h; subst h
                exact Sat.ok hQ
              · have h := iteF h c13
                by_cases c14 : 0 < (i1 : Int)
                · have h := iteT h c14
                  obtain ⟨v3, e_v3, h⟩ := ob h
                  obtain ⟨e_v3a, e_v3b⟩ := idx_some e_v3
                  by_cases c15 : x1 ≤ v3
                  · have h := iteT h c15
                    simp only [go_sem, hx1, hi1, hw1, c12, c13, c14, e_v3a, e_v3b, c15, hR1, hE1]
                    injection h with h; subst h
                    exact Sat.ok hQ
                  · have h := iteF h c15
                    simp only [go_sem, hx1, hi1, hw1, c12, c13, c14, e_v3a, e_v3b, c15, hR1, hE1]
                    exact ih1 () h
                · have h := iteF h c14
                  simp only [go_sem, hx1, hi1, hw1, c12, c13, c14, hR1, hE1]
                  exact ih1 () h
  · have h := iteF h c1
    have c1 := eq_false_of_ne_true c1
    simp only [go_sem, e_v1c, c1]
    injection h with h; subst h
    exact Sat.ok hQ

def ref03_Asked (n : Nat) (a0 : Alphabet) (a1 : Automaton) (a2 : Tree) : Option Int :=
  (ref03_Valid a0 a1).bind fun v1 =>
  if v1 = true then
    (ref01_Valid n a0 a2).bind fun v2 =>
    if v2 = true then
      some 0
    else
      some 1
  else
    some 1
theorem spec52 (n : Nat) (a0 : Alphabet) (a1 : Automaton) (a2 : Tree) (r : Int) (h : ref03_Asked n a0 a1 a2 = some r) :
    call Tryd.prog T H (.fn 52) [.p (.agg [.sl none 1 (List.map rowI a0.Ranks)]), .p (.agg [iv a1.States, .sl none 1 (List.map rowI a1.Final), .sl none 3 (List.map row_Rule a1.Rules)]), .p (.agg [iv a2.Sym, .sl none 2 (List.map row_Tree a2.Kids)])] [] = some (.ret (.p (iv r)), []) := by
  refine Sat.fn fun Q hQ => ?_
  unfold ref03_Asked at h
  rw [call52]
  conv => arg 1; arg 7; unfold S03.c52 Tryd.f52; simp only [Option.getD_some]
  obtain ⟨v1, e_v1, h⟩ := ob h
  have e_v1c : call Tryd.prog T H (.fn 22) [.p (.agg [.sl none 1 (List.map rowI a0.Ranks)]), .p (.agg [iv a1.States, .sl none 1 (List.map rowI a1.Final), .sl none 3 (List.map row_Rule a1.Rules)])] [] = some (.ret (.p (bv v1)), []) := spec22 a0 a1 v1 e_v1
  by_cases c1 : v1 = true
  · have h := iteT h c1
    obtain ⟨v2, e_v2, h⟩ := ob h
    have e_v2c : call Tryd.prog T H (.fn 16) [.p (.agg [.sl none 1 (List.map rowI a0.Ranks)]), .p (.agg [iv a2.Sym, .sl none 2 (List.map row_Tree a2.Kids)])] [] = some (.ret (.p (bv v2)), []) := spec16 n a0 a2 v2 e_v2
    by_cases c2 : v2 = true
    · have h := iteT h c2
      simp only [go_sem, e_v1c, c1, e_v2c, c2]
      injection h with h; subst h
      exact Sat.ok hQ
    · have h := iteF h c2
      have c2 := eq_false_of_ne_true c2
      simp only [go_sem, e_v1c, c1, e_v2c, c2]
      injection h with h; subst h
      exact Sat.ok hQ
  · have h := iteF h c1
    have c1 := eq_false_of_ne_true c1
    simp only [go_sem, e_v1c, c1]
    injection h with h; subst h
    exact Sat.ok hQ

def ref03_In (a0 : List Int) (a1 : Int) : Option Bool :=
  rangeL a0 () (fun k1 i1 x1 (s1 : Unit) n1 =>
    if x1 = a1 then
      some true
    else
      n1 ()) fun s1 =>
  some false
theorem spec18 (a0 : List Int) (a1 : Int) (r : Bool) (h : ref03_In a0 a1 = some r) :
    call Tryd.prog T H (.fn 18) [.p (.sl none 1 (List.map rowI a0)), .p (iv a1)] [] = some (.ret (.p (bv r)), []) := by
  refine Sat.fn fun Q hQ => ?_
  unfold ref03_In at h
  rw [call18]
  conv => arg 1; arg 7; unfold S03.c18 Tryd.f18; simp only [Option.getD_some]
  simp only [go_sem]
  refine run_rangeL (c := L18_0) (live := [1, 7, 8, 9]) (by simp only [go_sem]) (M := fun i1 (s1 : Unit) => [(1, .p (iv a1)), (7, .p (.sl none 1 (List.map rowI a0))), (8, .p (iv (a0.length : Int))), (9, .p (iv (i1 : Int)))]) (Z := fun i1 (s1 : Unit) => []) (N := fun (s1 : Unit) => ⟨[], [], [], none, false⟩) h rfl rfl (fun _ _ => rfl) ?_ ?_ ?_
  · intro s1 h
    try dsimp only at h ⊢
    simp only [go_sem]
    injection h with h; subst h
    exact Sat.ok hQ
  · intro K1 s1 hb1 he1
    try dsimp only
    conv => arg 1; arg 7; unfold L18_0 loopAt S03.c18 Tryd.f18; simp only [loopIn, Option.getD_some, if_true]
    simp only [go_sem, he1]
    exact hb1
  · intro K1 k1 i1 x1 s1 n1 hR1 hE1 hb1 hx1 hi1 hw1 ih1 h
    try dsimp only at h ⊢
    conv => arg 1; arg 7; unfold L18_0 loopAt S03.c18 Tryd.f18; simp only [loopIn, Option.getD_some, if_true]
    by_cases c1 : x1 = a1
    · have h := iteT h c1
      have c1b : (x1 == a1) = true := beqT c1
      simp only [go_sem, hx1, hi1, hw1, c1b, hR1, hE1]
      injection h with h; subst h
      exact Sat.ok hQ
    · have h := iteF h c1
      have c1b : (x1 == a1) = false := beqF c1
      simp only [go_sem, hx1, hi1, hw1, c1b, hR1, hE1]
      exact ih1 () h

def ref03_Insert (n : Nat) (a0 : List Int) (a1 : Int) : Option (List Int) :=
  whileL n 0 (fun k1 (s1 : Int) n1 =>
    if s1 < (a0.length : Int) then
      (idx a0 s1).bind fun v12 =>
      if v12 < a1 then
        n1 (w64 (s1 + 1))
      else
        k1 s1
    else
      k1 s1) fun s1 =>
  if s1 < (a0.length : Int) then
    (idx a0 s1).bind fun v1 =>
    if v1 = a1 then
      some a0
    else
      (slcT a0 s1).bind fun v2 =>
      (app 8 ([] : List Int) v2).bind fun v3 =>
      (app 8 v3 [a1]).bind fun v4 =>
      (slcF a0 s1).bind fun v5 =>
      (app 8 v4 v5).bind fun v6 =>
      some v6
  else
    (slcT a0 s1).bind fun v7 =>
    (app 8 ([] : List Int) v7).bind fun v8 =>
    (app 8 v8 [a1]).bind fun v9 =>
    (slcF a0 s1).bind fun v10 =>
    (app 8 v9 v10).bind fun v11 =>
    some v11
theorem spec92 (n : Nat) (a0 : List Int) (a1 : Int) (r : List Int) (h : ref03_Insert n a0 a1 = some r) :
    call Tryd.prog T H (.fn 92) [.p (.sl none 1 (List.map rowI a0)), .p (iv a1)] [] = some (.ret (.p (.sl none 1 (List.map rowI r))), []) := by
  refine Sat.fn fun Q hQ => ?_
  unfold ref03_Insert at h
  rw [call92]
  conv => arg 1; arg 7; unfold S03.c92 Tryd.f92; simp only [Option.getD_some]
  simp only [go_sem]
  refine run_whileL (c := L92_0) (live := [0, 1, 5]) (by simp only [go_sem]) (M := fun (s1 : Int) => [(0, .p (.sl none 1 (List.map rowI a0))), (1, .p (iv a1)), (5, .p (iv s1))]) (Z := fun (s1 : Int) => []) (N := fun (s1 : Int) => ⟨[(0, .p (.sl none 1 (List.map rowI a0))), (1, .p (iv a1)), (5, .p (iv s1))], [], [], none, false⟩) h rfl rfl (fun _ => rfl) ?_ ?_
  · intro s1 h
    try dsimp only at h ⊢
    by_cases c1 : s1 < (a0.length : Int)
    · have h := iteT h c1
      obtain ⟨v1, e_v1, h⟩ := ob h
      obtain ⟨e_v1a, e_v1b⟩ := idx_some e_v1
      by_cases c2 : v1 = a1
      · have h := iteT h c2
        have c2b : (v1 == a1) = true := beqT c2
        simp only [go_sem, c1, e_v1a, e_v1b, c2b]
        injection h with h; subst h
        exact Sat.ok hQ
      · have h := iteF h c2
        have c2b : (v1 == a1) = false := beqF c2
        obtain ⟨v2, e_v2, h⟩ := ob h
        obtain ⟨e_v21, e_v22, e_v23, e_v24⟩ := slcT_some e_v2
        obtain ⟨v3, e_v3, h⟩ := ob h
        have e_v3a : boundOk (v2.length) 8 = true := bnd_of (by have := (app_some e_v3).1; simpa using this) (by decide)
        have e_v3b : [] ++ (List.map rowI v2) = List.map rowI v3 := by rw [(app_some e_v3).2]; simp [rowI]
        have e_v3b : (List.map rowI v2) = List.map rowI v3 := by rw [← e_v3b]; rfl
        have e_v3z : boundOk (v3.length) 8 = true := by rw [(app_some e_v3).2]; simpa using e_v3a
        obtain ⟨v4, e_v4, h⟩ := ob h
        have e_v4a : boundOk (v3.length + 1) 8 = true := bnd_of (by have := (app_some e_v4).1; simpa using this) (by decide)
        have e_v4b : (List.map rowI v3) ++ [[iv a1]] = List.map rowI v4 := by rw [(app_some e_v4).2]; simp [rowI]
        obtain ⟨v5, e_v5, h⟩ := ob h
        obtain ⟨e_v51, e_v52, e_v53, e_v54⟩ := slcF_some e_v5
        obtain ⟨v6, e_v6, h⟩ := ob h
        have e_v6a : boundOk (v4.length + v5.length) 8 = true := bnd_of (by have := (app_some e_v6).1; simpa using this) (by decide)
        have e_v6b : (List.map rowI v4) ++ (List.map rowI v5) = List.map rowI v6 := by rw [(app_some e_v6).2]; simp [rowI]
        have e_v6b : List.map rowI (v4 ++ v5) = List.map rowI v6 := by rw [(app_some e_v6).2]
        simp only [go_sem, c1, e_v1a, e_v1b, c2b, e_v21, e_v23, ← e_v24, e_v3a, e_v3z, e_v3b, e_v4a, e_v4b, e_v51, e_v52, ← e_v54, e_v6a, e_v6b]
        injection h with h; subst h
        exact Sat.ok hQ
    · have h := iteF h c1
      obtain ⟨v7, e_v7, h⟩ := ob h
      obtain ⟨e_v71, e_v72, e_v73, e_v74⟩ := slcT_some e_v7
      obtain ⟨v8, e_v8, h⟩ := ob h
      have e_v8a : boundOk (v7.length) 8 = true := bnd_of (by have := (app_some e_v8).1; simpa using this) (by decide)
      have e_v8b : [] ++ (List.map rowI v7) = List.map rowI v8 := by rw [(app_some e_v8).2]; simp [rowI]
      have e_v8b : (List.map rowI v7) = List.map rowI v8 := by rw [← e_v8b]; rfl
      have e_v8z : boundOk (v8.length) 8 = true := by rw [(app_some e_v8).2]; simpa using e_v8a
      obtain ⟨v9, e_v9, h⟩ := ob h
      have e_v9a : boundOk (v8.length + 1) 8 = true := bnd_of (by have := (app_some e_v9).1; simpa using this) (by decide)
      have e_v9b : (List.map rowI v8) ++ [[iv a1]] = List.map rowI v9 := by rw [(app_some e_v9).2]; simp [rowI]
      obtain ⟨v10, e_v10, h⟩ := ob h
      obtain ⟨e_v101, e_v102, e_v103, e_v104⟩ := slcF_some e_v10
      obtain ⟨v11, e_v11, h⟩ := ob h
      have e_v11a : boundOk (v9.length + v10.length) 8 = true := bnd_of (by have := (app_some e_v11).1; simpa using this) (by decide)
      have e_v11b : (List.map rowI v9) ++ (List.map rowI v10) = List.map rowI v11 := by rw [(app_some e_v11).2]; simp [rowI]
      have e_v11b : List.map rowI (v9 ++ v10) = List.map rowI v11 := by rw [(app_some e_v11).2]
      simp only [go_sem, c1, e_v71, e_v73, ← e_v74, e_v8a, e_v8z, e_v8b, e_v9a, e_v9b, e_v101, e_v102, ← e_v104, e_v11a, e_v11b]
      injection h with h; subst h
      exact Sat.ok hQ
  · intro K1 k1 s1 n1 hR1 hE1 hb1 ih1 h
    try dsimp only at h ⊢
    conv => arg 1; arg 7; unfold L92_0 loopAt S03.c92 Tryd.f92; simp only [loopIn, Option.getD_some, if_true]
    by_cases c3 : s1 < (a0.length : Int)
    · have h := iteT h c3
      obtain ⟨v12, e_v12, h⟩ := ob h
      obtain ⟨e_v12a, e_v12b⟩ := idx_some e_v12
      by_cases c4 : v12 < a1
      · have h := iteT h c4
        simp only [go_sem, c3, e_v12a, e_v12b, c4, hR1, hE1]
        exact ih1 (w64 (s1 + 1)) h
      · have h := iteF h c4
        simp only [go_sem, c3, e_v12a, e_v12b, c4, hR1, hE1]
        exact hb1 s1 h
    · have h := iteF h c3
      simp only [go_sem, c3, hR1, hE1]
      exact hb1 s1 h

def ref03_Step (n : Nat) (a0 : Automaton) (a1 : Int) (a2 : List (List Int)) : Option (List Int) :=
  rangeL a0.Rules ([] : List Int) (fun k3 i3 x3 (s3 : (List Int)) n3 =>
    whileL n ((x3.Sym == a1), 0) (fun k4 (s4 : Bool × Int) n4 =>
      if s4.1 = true then
        if s4.2 < (a2.length : Int) then
          (idx a2 s4.2).bind fun v2 =>
          (idx x3.From s4.2).bind fun v3 =>
          (ref03_In v2 v3).bind fun v4 =>
          n4 (v4, w64 (s4.2 + 1))
        else
          k4 (true, s4.2)
      else
        k4 (false, s4.2)) fun s4 =>
    if s4.1 = true then
      (ref03_Insert n s3 x3.To).bind fun v1 =>
      n3 v1
    else
      n3 s3) fun s3 =>
  some s3
theorem spec80 (n : Nat) (a0 : Automaton) (a1 : Int) (a2 : List (List Int)) (r : List Int) (h : ref03_Step n a0 a1 a2 = some r) :
    call Tryd.prog T H (.fn 80) [.p (.agg [iv a0.States, .sl none 1 (List.map rowI a0.Final), .sl none 3 (List.map row_Rule a0.Rules)]), .p (iv a1), .p (.sl none 1 (List.map (rowL 1 rowI) a2))] [] = some (.ret (.p (.sl none 1 (List.map rowI r))), []) := by
  refine Sat.fn fun Q hQ => ?_
  unfold ref03_Step at h
  rw [call80]
  conv => arg 1; arg 7; unfold S03.c80 Tryd.f80; simp only [Option.getD_some]
  simp only [go_sem]
  refine run_rangeL (c := L80_0) (live := [1, 2, 7, 13, 14, 15]) (by simp only [go_sem]) (M := fun i3 (s3 : (List Int)) => [(1, .p (iv a1)), (2, .p (.sl none 1 (List.map (rowL 1 rowI) a2))), (7, .p (.sl none 1 (List.map rowI s3))), (13, .p (.sl none 3 (List.map row_Rule a0.Rules))), (14, .p (iv (a0.Rules.length : Int))), (15, .p (iv (i3 : Int)))]) (Z := fun i3 (s3 : (List Int)) => [.cells [.p (iv a0.States), .p (.sl none 1 (List.map rowI a0.Final)), .p (.sl none 3 (List.map row_Rule a0.Rules))]]) (N := fun (s3 : (List Int)) => ⟨[(7, .p (.sl none 1 (List.map rowI s3)))], [.cells [.p (iv a0.States), .p (.sl none 1 (List.map rowI a0.Final)), .p (.sl none 3 (List.map row_Rule a0.Rules))]], [], none, false⟩) h rfl rfl (fun _ _ => rfl) ?_ ?_ ?_
  · intro s3 h
    try dsimp only at h ⊢
    simp only [go_sem]
    injection h with h; subst h
    exact Sat.ok hQ
  · intro K3 s3 hb3 he3
    try dsimp only
    conv => arg 1; arg 7; unfold L80_0 loopAt S03.c80 Tryd.f80; simp only [loopIn, Option.getD_some, if_true]
    simp only [go_sem, he3]
    exact hb3
  · intro K3 k3 i3 x3 s3 n3 hR3 hE3 hb3 hx3 hi3 hw3 ih3 h
    try dsimp only at h ⊢
    conv => arg 1; arg 7; unfold L80_0 loopAt S03.c80 Tryd.f80; simp only [loopIn, Option.getD_some, if_true]
    simp only [go_sem, hx3, hi3, hw3, hR3, hE3]
    refine run_whileL (c := L80_2) (live := [1, 2, 7, 9, 10, 11, 13, 14, 15]) (by simp only [go_sem]) (M := fun (s4 : Bool × Int) => [(1, .p (iv a1)), (2, .p (.sl none 1 (List.map (rowL 1 rowI) a2))), (7, .p (.sl none 1 (List.map rowI s3))), (9, .ptr 1 0), (10, .p (bv s4.1)), (11, .p (iv s4.2)), (13, .p (.sl none 3 (List.map row_Rule a0.Rules))), (14, .p (iv (a0.Rules.length : Int))), (15, .p (iv (i3 : Int)))]) (Z := fun (s4 : Bool × Int) => [.cells [.p (iv a0.States), .p (.sl none 1 (List.map rowI a0.Final)), .p (.sl none 3 (List.map row_Rule a0.Rules))], .cells [.p (iv x3.Sym), .p (.sl none 1 (List.map rowI x3.From)), .p (iv x3.To)]]) (N := fun (s4 : Bool × Int) => ⟨[(1, .p (iv a1)), (2, .p (.sl none 1 (List.map (rowL 1 rowI) a2))), (7, .p (.sl none 1 (List.map rowI s3))), (9, .ptr 1 0), (10, .p (bv s4.1)), (13, .p (.sl none 3 (List.map row_Rule a0.Rules))), (14, .p (iv (a0.Rules.length : Int))), (15, .p (iv (i3 : Int)))], [.cells [.p (iv a0.States), .p (.sl none 1 (List.map rowI a0.Final)), .p (.sl none 3 (List.map row_Rule a0.Rules))], .cells [.p (iv x3.Sym), .p (.sl none 1 (List.map rowI x3.From)), .p (iv x3.To)]], [], none, false⟩) h rfl rfl (fun _ => rfl) ?_ ?_
    · intro s4 h
      try dsimp only at h ⊢
      by_cases c1 : s4.1 = true
      · have h := iteT h c1
        obtain ⟨v1, e_v1, h⟩ := ob h
        have e_v1c : call Tryd.prog T H (.fn 92) [.p (.sl none 1 (List.map rowI s3)), .p (iv x3.To)] [] = some (.ret (.p (.sl none 1 (List.map rowI v1))), []) := spec92 n s3 x3.To v1 e_v1
        simp only [go_sem, c1, e_v1c, hw3, hR3, hE3]
        exact ih3 v1 h
      · have h := iteF h c1
        have c1 := eq_false_of_ne_true c1
        simp only [go_sem, c1, hw3, hR3, hE3]
        exact ih3 s3 h
    · intro K4 k4 s4 n4 hR4 hE4 hb4 ih4 h
      try dsimp only at h ⊢
      conv => arg 1; arg 7; unfold L80_2 loopAt S03.c80 Tryd.f80; simp only [loopIn, Option.getD_some, if_true]
      by_cases c2 : s4.1 = true
      · have h := iteT h c2
        by_cases c3 : s4.2 < (a2.length : Int)
        · have h := iteT h c3
          obtain ⟨v2, e_v2, h⟩ := ob h
          obtain ⟨e_v2a, e_v2b⟩ := idx_some e_v2
          obtain ⟨v3, e_v3, h⟩ := ob h
          obtain ⟨e_v3a, e_v3b⟩ := idx_some e_v3
          obtain ⟨v4, e_v4, h⟩ := ob h
          have e_v4c : call Tryd.prog T H (.fn 18) [.p (.sl none 1 (List.map rowI v2)), .p (iv v3)] [] = some (.ret (.p (bv v4)), []) := spec18 v2 v3 v4 e_v4
          simp only [go_sem, c2, c3, e_v2a, e_v2b, e_v3a, e_v3b, e_v4c, hw3, hR3, hE3, hR4, hE4]
          exact ih4 (v4, w64 (s4.2 + 1)) h
        · have h := iteF h c3
          simp only [go_sem, c2, c3, hw3, hR3, hE3, hR4, hE4]
          exact hb4 (true, s4.2) h
      · have h := iteF h c2
        have c2 := eq_false_of_ne_true c2
        simp only [go_sem, c2, hw3, hR3, hE3, hR4, hE4]
        exact hb4 (false, s4.2) h

def ref03_Of : Nat → Automaton → Tree → Option (List Int)
  | 0, _, _ => none
  | n + 1, a0, a1 =>
    rangeL a1.Kids ([] : List (List Int)) (fun k1 i1 x1 (s1 : (List (List Int))) n1 =>
      (ref03_Of n a0 x1).bind fun v2 =>
      (app 24 s1 [v2]).bind fun v3 =>
      n1 v3) fun s1 =>
    (ref03_Step n a0 a1.Sym s1).bind fun v1 =>
    some v1
theorem spec53 : ∀ (n : Nat), (∀ (a0 : Automaton) (a1 : Tree) (r : List Int), ref03_Of n a0 a1 = some r →
    call Tryd.prog T H (.fn 53) [.p (.agg [iv a0.States, .sl none 1 (List.map rowI a0.Final), .sl none 3 (List.map row_Rule a0.Rules)]), .p (.agg [iv a1.Sym, .sl none 2 (List.map row_Tree a1.Kids)])] [] = some (.ret (.p (.sl none 1 (List.map rowI r))), [])) := by
  intro n
  induction n with
  | zero => intro a0 a1 r h; cases h
  | succ n ih =>
    intro a0 a1 r h
    refine Sat.fn fun Q hQ => ?_
    rw [ref03_Of] at h
    rw [call53]
    conv => arg 1; arg 7; unfold S03.c53 Tryd.f53; simp only [Option.getD_some]
    simp only [go_sem]
    refine run_rangeL (c := L53_0) (live := [2, 3, 5, 9, 10, 11]) (by simp only [go_sem]) (M := fun i1 (s1 : (List (List Int))) => [(2, .ptr 0 0), (3, .ptr 1 0), (5, .own 1 (List.map (rowL 1 rowI) s1)), (9, .p (.sl none 2 (List.map row_Tree a1.Kids))), (10, .p (iv (a1.Kids.length : Int))), (11, .p (iv (i1 : Int)))]) (Z := fun i1 (s1 : (List (List Int))) => [.cells [.p (iv a0.States), .p (.sl none 1 (List.map rowI a0.Final)), .p (.sl none 3 (List.map row_Rule a0.Rules))], .cells [.p (iv a1.Sym), .p (.sl none 2 (List.map row_Tree a1.Kids))]]) (N := fun (s1 : (List (List Int))) => ⟨[(2, .ptr 0 0), (3, .ptr 1 0), (5, .own 1 (List.map (rowL 1 rowI) s1))], [.cells [.p (iv a0.States), .p (.sl none 1 (List.map rowI a0.Final)), .p (.sl none 3 (List.map row_Rule a0.Rules))], .cells [.p (iv a1.Sym), .p (.sl none 2 (List.map row_Tree a1.Kids))]], [], none, false⟩) h rfl rfl (fun _ _ => rfl) ?_ ?_ ?_
    · intro s1 h
      try dsimp only at h ⊢
      obtain ⟨v1, e_v1, h⟩ := ob h
      have e_v1c : call Tryd.prog T H (.fn 80) [.p (.agg [iv a0.States, .sl none 1 (List.map rowI a0.Final), .sl none 3 (List.map row_Rule a0.Rules)]), .p (iv a1.Sym), .p (.sl none 1 (List.map (rowL 1 rowI) s1))] [] = some (.ret (.p (.sl none 1 (List.map rowI v1))), []) := spec80 n a0 a1.Sym s1 v1 e_v1
      simp only [go_sem, e_v1c]
      injection h with h; subst h
      exact Sat.ok hQ
    · intro K1 s1 hb1 he1
      try dsimp only
      conv => arg 1; arg 7; unfold L53_0 loopAt S03.c53 Tryd.f53; simp only [loopIn, Option.getD_some, if_true]
      simp only [go_sem, he1]
      exact hb1
    · intro K1 k1 i1 x1 s1 n1 hR1 hE1 hb1 hx1 hi1 hw1 ih1 h
      try dsimp only at h ⊢
      conv => arg 1; arg 7; unfold L53_0 loopAt S03.c53 Tryd.f53; simp only [loopIn, Option.getD_some, if_true]
      obtain ⟨v2, e_v2, h⟩ := ob h
      have e_v2c : call Tryd.prog T H (.fn 53) [.p (.agg [iv a0.States, .sl none 1 (List.map rowI a0.Final), .sl none 3 (List.map row_Rule a0.Rules)]), .p (.agg [iv x1.Sym, .sl none 2 (List.map row_Tree x1.Kids)])] [] = some (.ret (.p (.sl none 1 (List.map rowI v2))), []) := ih a0 x1 v2 e_v2
      obtain ⟨v3, e_v3, h⟩ := ob h
      have e_v3a : boundOk (s1.length + 1) 24 = true := bnd_of (by have := (app_some e_v3).1; simpa using this) (by decide)
      have e_v3b : (List.map (rowL 1 rowI) s1) ++ [[.sl none 1 (List.map rowI v2)]] = List.map (rowL 1 rowI) v3 := by rw [(app_some e_v3).2]; simp [rowI, rowL]
      simp only [go_sem, hx1, hi1, hw1, e_v2c, e_v3a, e_v3b, hR1, hE1]
      exact ih1 v3 h

def ref03_Meet (a0 : List Int) (a1 : List Int) : Option Bool :=
  rangeL a0 () (fun k1 i1 x1 (s1 : Unit) n1 =>
    (ref03_In a1 x1).bind fun v1 =>
    if v1 = true then
      some true
    else
      n1 ()) fun s1 =>
  some false
theorem spec63 (a0 : List Int) (a1 : List Int) (r : Bool) (h : ref03_Meet a0 a1 = some r) :
    call Tryd.prog T H (.fn 63) [.p (.sl none 1 (List.map rowI a0)), .p (.sl none 1 (List.map rowI a1))] [] = some (.ret (.p (bv r)), []) := by
  refine Sat.fn fun Q hQ => ?_
  unfold ref03_Meet at h
  rw [call63]
  conv => arg 1; arg 7; unfold S03.c63 Tryd.f63; simp only [Option.getD_some]
  simp only [go_sem]
  refine run_rangeL (c := L63_0) (live := [1, 7, 8, 9]) (by simp only [go_sem]) (M := fun i1 (s1 : Unit) => [(1, .p (.sl none 1 (List.map rowI a1))), (7, .p (.sl none 1 (List.map rowI a0))), (8, .p (iv (a0.length : Int))), (9, .p (iv (i1 : Int)))]) (Z := fun i1 (s1 : Unit) => []) (N := fun (s1 : Unit) => ⟨[], [], [], none, false⟩) h rfl rfl (fun _ _ => rfl) ?_ ?_ ?_
  · intro s1 h
    try dsimp only at h ⊢
    simp only [go_sem]
    injection h with h; subst h
    exact Sat.ok hQ
  · intro K1 s1 hb1 he1
    try dsimp only
    conv => arg 1; arg 7; unfold L63_0 loopAt S03.c63 Tryd.f63; simp only [loopIn, Option.getD_some, if_true]
    simp only [go_sem, he1]
    exact hb1
  · intro K1 k1 i1 x1 s1 n1 hR1 hE1 hb1 hx1 hi1 hw1 ih1 h
    try dsimp only at h ⊢
    conv => arg 1; arg 7; unfold L63_0 loopAt S03.c63 Tryd.f63; simp only [loopIn, Option.getD_some, if_true]
    obtain ⟨v1, e_v1, h⟩ := ob h
    have e_v1c : call Tryd.prog T H (.fn 18) [.p (.sl none 1 (List.map rowI a1)), .p (iv x1)] [] = some (.ret (.p (bv v1)), []) := spec18 a1 x1 v1 e_v1
    by_cases c1 : v1 = true
    · have h := iteT h c1
      simp only [go_sem, hx1, hi1, hw1, e_v1c, c1, hR1, hE1]
      injection h with h; subst h
      exact Sat.ok hQ
    · have h := iteF h c1
      have c1 := eq_false_of_ne_true c1
      simp only [go_sem, hx1, hi1, hw1, e_v1c, c1, hR1, hE1]
      exact ih1 () h

def ref03_Has (n : Nat) (a0 : Automaton) (a1 : Tree) : Option Bool :=
  (ref03_Of n a0 a1).bind fun v1 =>
  (ref03_Meet v1 a0.Final).bind fun v2 =>
  some v2
theorem spec24 (n : Nat) (a0 : Automaton) (a1 : Tree) (r : Bool) (h : ref03_Has n a0 a1 = some r) :
    call Tryd.prog T H (.fn 24) [.p (.agg [iv a0.States, .sl none 1 (List.map rowI a0.Final), .sl none 3 (List.map row_Rule a0.Rules)]), .p (.agg [iv a1.Sym, .sl none 2 (List.map row_Tree a1.Kids)])] [] = some (.ret (.p (bv r)), []) := by
  refine Sat.fn fun Q hQ => ?_
  unfold ref03_Has at h
  rw [call24]
  conv => arg 1; arg 7; unfold S03.c24 Tryd.f24; simp only [Option.getD_some]
  obtain ⟨v1, e_v1, h⟩ := ob h
  have e_v1c : call Tryd.prog T H (.fn 53) [.p (.agg [iv a0.States, .sl none 1 (List.map rowI a0.Final), .sl none 3 (List.map row_Rule a0.Rules)]), .p (.agg [iv a1.Sym, .sl none 2 (List.map row_Tree a1.Kids)])] [] = some (.ret (.p (.sl none 1 (List.map rowI v1))), []) := spec53 n a0 a1 v1 e_v1
  obtain ⟨v2, e_v2, h⟩ := ob h
  have e_v2c : call Tryd.prog T H (.fn 63) [.p (.sl none 1 (List.map rowI v1)), .p (.sl none 1 (List.map rowI a0.Final))] [] = some (.ret (.p (bv v2)), []) := spec63 v1 a0.Final v2 e_v2
  simp only [go_sem, e_v1c, e_v2c]
  injection h with h; subst h
  exact Sat.ok hQ

def ref01_List (a0 : List Int) (a1 : List Int) : Option Bool :=
  if (a0.length : Int) = (a1.length : Int) then
    rangeL a0 () (fun k1 i1 x1 (s1 : Unit) n1 =>
      (a1[i1]?).bind fun v1 =>
      if x1 = v1 then
        n1 ()
      else
        some false) fun s1 =>
    some true
  else
    some false
theorem spec15 (a0 : List Int) (a1 : List Int) (r : Bool) (h : ref01_List a0 a1 = some r) :
    call Tryd.prog T H (.fn 15) [.p (.sl none 1 (List.map rowI a0)), .p (.sl none 1 (List.map rowI a1))] [] = some (.ret (.p (bv r)), []) := by
  refine Sat.fn fun Q hQ => ?_
  unfold ref01_List at h
  rw [call15]
  conv => arg 1; arg 7; unfold S03.c15 Tryd.f15; simp only [Option.getD_some]
  by_cases c1 : (a0.length : Int) = (a1.length : Int)
  · have h := iteT h c1
    have c1b : ((a0.length : Int) != (a1.length : Int)) = false := bneF c1
    simp only [go_sem, c1b]
    refine run_rangeL (c := L15_0) (live := [0, 1, 12, 13]) (by simp only [go_sem]) (M := fun i1 (s1 : Unit) => [(0, .p (.sl none 1 (List.map rowI a0))), (1, .p (.sl none 1 (List.map rowI a1))), (12, .p (iv (a0.length : Int))), (13, .p (iv (i1 : Int)))]) (Z := fun i1 (s1 : Unit) => []) (N := fun (s1 : Unit) => ⟨[], [], [], none, false⟩) h rfl rfl (fun _ _ => rfl) ?_ ?_ ?_
    · intro s1 h
      try dsimp only at h ⊢
      simp only [go_sem]
      injection h with h; subst h
      exact Sat.ok hQ
    · intro K1 s1 hb1 he1
      try dsimp only
      conv => arg 1; arg 7; unfold L15_0 loopAt S03.c15 Tryd.f15; simp only [loopIn, Option.getD_some, if_true]
      simp only [go_sem, he1]
      exact hb1
    · intro K1 k1 i1 x1 s1 n1 hR1 hE1 hb1 hx1 hi1 hw1 ih1 h
      try dsimp only at h ⊢
      conv => arg 1; arg 7; unfold L15_0 loopAt S03.c15 Tryd.f15; simp only [loopIn, Option.getD_some, if_true]
      obtain ⟨v1, e_v1, h⟩ := ob h
      by_cases c2 : x1 = v1
      · have h := iteT h c2
        have c2b : (x1 != v1) = false := bneF c2
        simp only [go_sem, hx1, hi1, hw1, e_v1, c2b, hR1, hE1]
        exact ih1 () h
      · have h := iteF h c2
        have c2b : (x1 != v1) = true := bneT c2
        simp only [go_sem, hx1, hi1, hw1, e_v1, c2b, hR1, hE1]
        injection h with h; subst h
        exact Sat.ok hQ
  · have h := iteF h c1
    have c1b : ((a0.length : Int) != (a1.length : Int)) = true := bneT c1
    simp only [go_sem, c1b]
    injection h with h; subst h
    exact Sat.ok hQ

def internal_strconv_small (a0 : Int) : Option Str :=
  if a0 < 10 then
    (slc ([48, 49, 50, 51, 52, 53, 54, 55, 56, 57, 97, 98, 99, 100, 101, 102, 103, 104, 105, 106, 107, 108, 109, 110, 111, 112, 113, 114, 115, 116, 117, 118, 119, 120, 121, 122] : Str) a0 (w64 (a0 + 1))).bind fun v1 =>
    some v1
  else
    (slc ([48, 48, 48, 49, 48, 50, 48, 51, 48, 52, 48, 53, 48, 54, 48, 55, 48, 56, 48, 57, 49, 48, 49, 49, 49, 50, 49, 51, 49, 52, 49, 53, 49, 54, 49, 55, 49, 56, 49, 57, 50, 48, 50, 49, 50, 50, 50, 51, 50, 52, 50, 53, 50, 54, 50, 55, 50, 56, 50, 57, 51, 48, 51, 49, 51, 50, 51, 51, 51, 52, 51, 53, 51, 54, 51, 55, 51, 56, 51, 57, 52, 48, 52, 49, 52, 50, 52, 51, 52, 52, 52, 53, 52, 54, 52, 55, 52, 56, 52, 57, 53, 48, 53, 49, 53, 50, 53, 51, 53, 52, 53, 53, 53, 54, 53, 55, 53, 56, 53, 57, 54, 48, 54, 49, 54, 50, 54, 51, 54, 52, 54, 53, 54, 54, 54, 55, 54, 56, 54, 57, 55, 48, 55, 49, 55, 50, 55, 51, 55, 52, 55, 53, 55, 54, 55, 55, 55, 56, 55, 57, 56, 48, 56, 49, 56, 50, 56, 51, 56, 52, 56, 53, 56, 54, 56, 55, 56, 56, 56, 57, 57, 48, 57, 49, 57, 50, 57, 51, 57, 52, 57, 53, 57, 54, 57, 55, 57, 56, 57, 57] : Str) (w64 (a0 * 2)) (w64 ((w64 (a0 * 2)) + 2))).bind fun v2 =>
    some v2
theorem spec107 (a0 : Int) (r : Str) (h : internal_strconv_small a0 = some r) :
    call Tryd.prog T H (.fn 107) [.p (iv a0)] [] = some (.ret (.p (.lit (.string (bs r)))), []) := by
  refine Sat.fn fun Q hQ => ?_
  unfold internal_strconv_small at h
  rw [call107]
  conv => arg 1; arg 7; unfold S03.c107 Tryd.f107; simp only [Option.getD_some]
  by_cases c1 : a0 < 10
  · have h := iteT h c1
    obtain ⟨v1, e_v1, h⟩ := ob h
    obtain ⟨e_v11, e_v12, e_v13, e_v14, e_v15⟩ := slc_some e_v1
    try simp only [List.length_cons, List.length_nil, Nat.reduceAdd] at e_v11
    try simp only [List.length_cons, List.length_nil, Nat.reduceAdd] at e_v12
    try simp only [List.length_cons, List.length_nil, Nat.reduceAdd] at e_v13
    try simp only [List.length_cons, List.length_nil, Nat.reduceAdd] at e_v14
    simp only [go_sem, c1, e_v11, e_v12, e_v13, e_v14, ← e_v15]
    injection h with h; subst h
    exact Sat.ok hQ
  · have h := iteF h c1
    obtain ⟨v2, e_v2, h⟩ := ob h
    obtain ⟨e_v21, e_v22, e_v23, e_v24, e_v25⟩ := slc_some e_v2
    try simp only [List.length_cons, List.length_nil, Nat.reduceAdd] at e_v21
    try simp only [List.length_cons, List.length_nil, Nat.reduceAdd] at e_v22
    try simp only [List.length_cons, List.length_nil, Nat.reduceAdd] at e_v23
    try simp only [List.length_cons, List.length_nil, Nat.reduceAdd] at e_v24
    simp only [go_sem, c1, List.append_eq, List.cons_append, List.nil_append, e_v21, e_v22, e_v23, e_v24, ← e_v25]
    injection h with h; subst h
    exact Sat.ok hQ

def math_bits_Len64 (a0 : Int) : Option Int :=
  if 4294967296 ≤ a0 then
    if 65536 ≤ (shrI .u64 a0 32) then
      if 256 ≤ (shrI .u64 (shrI .u64 a0 32) 16) then
        (idx ([0, 1, 2, 2, 3, 3, 3, 3, 4, 4, 4, 4, 4, 4, 4, 4, 5, 5, 5, 5, 5, 5, 5, 5, 5, 5, 5, 5, 5, 5, 5, 5, 6, 6, 6, 6, 6, 6, 6, 6, 6, 6, 6, 6, 6, 6, 6, 6, 6, 6, 6, 6, 6, 6, 6, 6, 6, 6, 6, 6, 6, 6, 6, 6, 7, 7, 7, 7, 7, 7, 7, 7, 7, 7, 7, 7, 7, 7, 7, 7, 7, 7, 7, 7, 7, 7, 7, 7, 7, 7, 7, 7, 7, 7, 7, 7, 7, 7, 7, 7, 7, 7, 7, 7, 7, 7, 7, 7, 7, 7, 7, 7, 7, 7, 7, 7, 7, 7, 7, 7, 7, 7, 7, 7, 7, 7, 7, 7, 8, 8, 8, 8, 8, 8, 8, 8, 8, 8, 8, 8, 8, 8, 8, 8, 8, 8, 8, 8, 8, 8, 8, 8, 8, 8, 8, 8, 8, 8, 8, 8, 8, 8, 8, 8, 8, 8, 8, 8, 8, 8, 8, 8, 8, 8, 8, 8, 8, 8, 8, 8, 8, 8, 8, 8, 8, 8, 8, 8, 8, 8, 8, 8, 8, 8, 8, 8, 8, 8, 8, 8, 8, 8, 8, 8, 8, 8, 8, 8, 8, 8, 8, 8, 8, 8, 8, 8, 8, 8, 8, 8, 8, 8, 8, 8, 8, 8, 8, 8, 8, 8, 8, 8, 8, 8, 8, 8, 8, 8, 8, 8, 8, 8, 8, 8, 8, 8, 8, 8, 8, 8, 8, 8, 8, 8, 8, 8] : Str) (IntKind.u8.wrap (shrI .u64 (shrI .u64 (shrI .u64 a0 32) 16) 8))).bind fun v1 =>
        some (w64 ((w64 ((w64 (32 + 16)) + 8)) + (IntKind.i64.wrap (v1.toNat : Int))))
      else
        (idx ([0, 1, 2, 2, 3, 3, 3, 3, 4, 4, 4, 4, 4, 4, 4, 4, 5, 5, 5, 5, 5, 5, 5, 5, 5, 5, 5, 5, 5, 5, 5, 5, 6, 6, 6, 6, 6, 6, 6, 6, 6, 6, 6, 6, 6, 6, 6, 6, 6, 6, 6, 6, 6, 6, 6, 6, 6, 6, 6, 6, 6, 6, 6, 6, 7, 7, 7, 7, 7, 7, 7, 7, 7, 7, 7, 7, 7, 7, 7, 7, 7, 7, 7, 7, 7, 7, 7, 7, 7, 7, 7, 7, 7, 7, 7, 7, 7, 7, 7, 7, 7, 7, 7, 7, 7, 7, 7, 7, 7, 7, 7, 7, 7, 7, 7, 7, 7, 7, 7, 7, 7, 7, 7, 7, 7, 7, 7, 7, 8, 8, 8, 8, 8, 8, 8, 8, 8, 8, 8, 8, 8, 8, 8, 8, 8, 8, 8, 8, 8, 8, 8, 8, 8, 8, 8, 8, 8, 8, 8, 8, 8, 8, 8, 8, 8, 8, 8, 8, 8, 8, 8, 8, 8, 8, 8, 8, 8, 8, 8, 8, 8, 8, 8, 8, 8, 8, 8, 8, 8, 8, 8, 8, 8, 8, 8, 8, 8, 8, 8, 8, 8, 8, 8, 8, 8, 8, 8, 8, 8, 8, 8, 8, 8, 8, 8, 8, 8, 8, 8, 8, 8, 8, 8, 8, 8, 8, 8, 8, 8, 8, 8, 8, 8, 8, 8, 8, 8, 8, 8, 8, 8, 8, 8, 8, 8, 8, 8, 8, 8, 8, 8, 8, 8, 8, 8, 8] : Str) (IntKind.u8.wrap (shrI .u64 (shrI .u64 a0 32) 16))).bind fun v2 =>
        some (w64 ((w64 (32 + 16)) + (IntKind.i64.wrap (v2.toNat : Int))))
    else
      if 256 ≤ (shrI .u64 a0 32) then
        (idx ([0, 1, 2, 2, 3, 3, 3, 3, 4, 4, 4, 4, 4, 4, 4, 4, 5, 5, 5, 5, 5, 5, 5, 5, 5, 5, 5, 5, 5, 5, 5, 5, 6, 6, 6, 6, 6, 6, 6, 6, 6, 6, 6, 6, 6, 6, 6, 6, 6, 6, 6, 6, 6, 6, 6, 6, 6, 6, 6, 6, 6, 6, 6, 6, 7, 7, 7, 7, 7, 7, 7, 7, 7, 7, 7, 7, 7, 7, 7, 7, 7, 7, 7, 7, 7, 7, 7, 7, 7, 7, 7, 7, 7, 7, 7, 7, 7, 7, 7, 7, 7, 7, 7, 7, 7, 7, 7, 7, 7, 7, 7, 7, 7, 7, 7, 7, 7, 7, 7, 7, 7, 7, 7, 7, 7, 7, 7, 7, 8, 8, 8, 8, 8, 8, 8, 8, 8, 8, 8, 8, 8, 8, 8, 8, 8, 8, 8, 8, 8, 8, 8, 8, 8, 8, 8, 8, 8, 8, 8, 8, 8, 8, 8, 8, 8, 8, 8, 8, 8, 8, 8, 8, 8, 8, 8, 8, 8, 8, 8, 8, 8, 8, 8, 8, 8, 8, 8, 8, 8, 8, 8, 8, 8, 8, 8, 8, 8, 8, 8, 8, 8, 8, 8, 8, 8, 8, 8, 8, 8, 8, 8, 8, 8, 8, 8, 8, 8, 8, 8, 8, 8, 8, 8, 8, 8, 8, 8, 8, 8, 8, 8, 8, 8, 8, 8, 8, 8, 8, 8, 8, 8, 8, 8, 8, 8, 8, 8, 8, 8, 8, 8, 8, 8, 8, 8, 8] : Str) (IntKind.u8.wrap (shrI .u64 (shrI .u64 a0 32) 8))).bind fun v3 =>
        some (w64 ((w64 (32 + 8)) + (IntKind.i64.wrap (v3.toNat : Int))))
      else
        (idx ([0, 1, 2, 2, 3, 3, 3, 3, 4, 4, 4, 4, 4, 4, 4, 4, 5, 5, 5, 5, 5, 5, 5, 5, 5, 5, 5, 5, 5, 5, 5, 5, 6, 6, 6, 6, 6, 6, 6, 6, 6, 6, 6, 6, 6, 6, 6, 6, 6, 6, 6, 6, 6, 6, 6, 6, 6, 6, 6, 6, 6, 6, 6, 6, 7, 7, 7, 7, 7, 7, 7, 7, 7, 7, 7, 7, 7, 7, 7, 7, 7, 7, 7, 7, 7, 7, 7, 7, 7, 7, 7, 7, 7, 7, 7, 7, 7, 7, 7, 7, 7, 7, 7, 7, 7, 7, 7, 7, 7, 7, 7, 7, 7, 7, 7, 7, 7, 7, 7, 7, 7, 7, 7, 7, 7, 7, 7, 7, 8, 8, 8, 8, 8, 8, 8, 8, 8, 8, 8, 8, 8, 8, 8, 8, 8, 8, 8, 8, 8, 8, 8, 8, 8, 8, 8, 8, 8, 8, 8, 8, 8, 8, 8, 8, 8, 8, 8, 8, 8, 8, 8, 8, 8, 8, 8, 8, 8, 8, 8, 8, 8, 8, 8, 8, 8, 8, 8, 8, 8, 8, 8, 8, 8, 8, 8, 8, 8, 8, 8, 8, 8, 8, 8, 8, 8, 8, 8, 8, 8, 8, 8, 8, 8, 8, 8, 8, 8, 8, 8, 8, 8, 8, 8, 8, 8, 8, 8, 8, 8, 8, 8, 8, 8, 8, 8, 8, 8, 8, 8, 8, 8, 8, 8, 8, 8, 8, 8, 8, 8, 8, 8, 8, 8, 8, 8, 8] : Str) (IntKind.u8.wrap (shrI .u64 a0 32))).bind fun v4 =>
        some (w64 (32 + (IntKind.i64.wrap (v4.toNat : Int))))
  else
    if 65536 ≤ a0 then
      if 256 ≤ (shrI .u64 a0 16) then
        (idx ([0, 1, 2, 2, 3, 3, 3, 3, 4, 4, 4, 4, 4, 4, 4, 4, 5, 5, 5, 5, 5, 5, 5, 5, 5, 5, 5, 5, 5, 5, 5, 5, 6, 6, 6, 6, 6, 6, 6, 6, 6, 6, 6, 6, 6, 6, 6, 6, 6, 6, 6, 6, 6, 6, 6, 6, 6, 6, 6, 6, 6, 6, 6, 6, 7, 7, 7, 7, 7, 7, 7, 7, 7, 7, 7, 7, 7, 7, 7, 7, 7, 7, 7, 7, 7, 7, 7, 7, 7, 7, 7, 7, 7, 7, 7, 7, 7, 7, 7, 7, 7, 7, 7, 7, 7, 7, 7, 7, 7, 7, 7, 7, 7, 7, 7, 7, 7, 7, 7, 7, 7, 7, 7, 7, 7, 7, 7, 7, 8, 8, 8, 8, 8, 8, 8, 8, 8, 8, 8, 8, 8, 8, 8, 8, 8, 8, 8, 8, 8, 8, 8, 8, 8, 8, 8, 8, 8, 8, 8, 8, 8, 8, 8, 8, 8, 8, 8, 8, 8, 8, 8, 8, 8, 8, 8, 8, 8, 8, 8, 8, 8, 8, 8, 8, 8, 8, 8, 8, 8, 8, 8, 8, 8, 8, 8, 8, 8, 8, 8, 8, 8, 8, 8, 8, 8, 8, 8, 8, 8, 8, 8, 8, 8, 8, 8, 8, 8, 8, 8, 8, 8, 8, 8, 8, 8, 8, 8, 8, 8, 8, 8, 8, 8, 8, 8, 8, 8, 8, 8, 8, 8, 8, 8, 8, 8, 8, 8, 8, 8, 8, 8, 8, 8, 8, 8, 8] : Str) (IntKind.u8.wrap (shrI .u64 (shrI .u64 a0 16) 8))).bind fun v5 =>
        some (w64 ((w64 ((w64 (0 + 16)) + 8)) + (IntKind.i64.wrap (v5.toNat : Int))))
      else
        (idx ([0, 1, 2, 2, 3, 3, 3, 3, 4, 4, 4, 4, 4, 4, 4, 4, 5, 5, 5, 5, 5, 5, 5, 5, 5, 5, 5, 5, 5, 5, 5, 5, 6, 6, 6, 6, 6, 6, 6, 6, 6, 6, 6, 6, 6, 6, 6, 6, 6, 6, 6, 6, 6, 6, 6, 6, 6, 6, 6, 6, 6, 6, 6, 6, 7, 7, 7, 7, 7, 7, 7, 7, 7, 7, 7, 7, 7, 7, 7, 7, 7, 7, 7, 7, 7, 7, 7, 7, 7, 7, 7, 7, 7, 7, 7, 7, 7, 7, 7, 7, 7, 7, 7, 7, 7, 7, 7, 7, 7, 7, 7, 7, 7, 7, 7, 7, 7, 7, 7, 7, 7, 7, 7, 7, 7, 7, 7, 7, 8, 8, 8, 8, 8, 8, 8, 8, 8, 8, 8, 8, 8, 8, 8, 8, 8, 8, 8, 8, 8, 8, 8, 8, 8, 8, 8, 8, 8, 8, 8, 8, 8, 8, 8, 8, 8, 8, 8, 8, 8, 8, 8, 8, 8, 8, 8, 8, 8, 8, 8, 8, 8, 8, 8, 8, 8, 8, 8, 8, 8, 8, 8, 8, 8, 8, 8, 8, 8, 8, 8, 8, 8, 8, 8, 8, 8, 8, 8, 8, 8, 8, 8, 8, 8, 8, 8, 8, 8, 8, 8, 8, 8, 8, 8, 8, 8, 8, 8, 8, 8, 8, 8, 8, 8, 8, 8, 8, 8, 8, 8, 8, 8, 8, 8, 8, 8, 8, 8, 8, 8, 8, 8, 8, 8, 8, 8, 8] : Str) (IntKind.u8.wrap (shrI .u64 a0 16))).bind fun v6 =>
        some (w64 ((w64 (0 + 16)) + (IntKind.i64.wrap (v6.toNat : Int))))
    else
      if 256 ≤ a0 then
        (idx ([0, 1, 2, 2, 3, 3, 3, 3, 4, 4, 4, 4, 4, 4, 4, 4, 5, 5, 5, 5, 5, 5, 5, 5, 5, 5, 5, 5, 5, 5, 5, 5, 6, 6, 6, 6, 6, 6, 6, 6, 6, 6, 6, 6, 6, 6, 6, 6, 6, 6, 6, 6, 6, 6, 6, 6, 6, 6, 6, 6, 6, 6, 6, 6, 7, 7, 7, 7, 7, 7, 7, 7, 7, 7, 7, 7, 7, 7, 7, 7, 7, 7, 7, 7, 7, 7, 7, 7, 7, 7, 7, 7, 7, 7, 7, 7, 7, 7, 7, 7, 7, 7, 7, 7, 7, 7, 7, 7, 7, 7, 7, 7, 7, 7, 7, 7, 7, 7, 7, 7, 7, 7, 7, 7, 7, 7, 7, 7, 8, 8, 8, 8, 8, 8, 8, 8, 8, 8, 8, 8, 8, 8, 8, 8, 8, 8, 8, 8, 8, 8, 8, 8, 8, 8, 8, 8, 8, 8, 8, 8, 8, 8, 8, 8, 8, 8, 8, 8, 8, 8, 8, 8, 8, 8, 8, 8, 8, 8, 8, 8, 8, 8, 8, 8, 8, 8, 8, 8, 8, 8, 8, 8, 8, 8, 8, 8, 8, 8, 8, 8, 8, 8, 8, 8, 8, 8, 8, 8, 8, 8, 8, 8, 8, 8, 8, 8, 8, 8, 8, 8, 8, 8, 8, 8, 8, 8, 8, 8, 8, 8, 8, 8, 8, 8, 8, 8, 8, 8, 8, 8, 8, 8, 8, 8, 8, 8, 8, 8, 8, 8, 8, 8, 8, 8, 8, 8] : Str) (IntKind.u8.wrap (shrI .u64 a0 8))).bind fun v7 =>
        some (w64 ((w64 (0 + 8)) + (IntKind.i64.wrap (v7.toNat : Int))))
      else
        (idx ([0, 1, 2, 2, 3, 3, 3, 3, 4, 4, 4, 4, 4, 4, 4, 4, 5, 5, 5, 5, 5, 5, 5, 5, 5, 5, 5, 5, 5, 5, 5, 5, 6, 6, 6, 6, 6, 6, 6, 6, 6, 6, 6, 6, 6, 6, 6, 6, 6, 6, 6, 6, 6, 6, 6, 6, 6, 6, 6, 6, 6, 6, 6, 6, 7, 7, 7, 7, 7, 7, 7, 7, 7, 7, 7, 7, 7, 7, 7, 7, 7, 7, 7, 7, 7, 7, 7, 7, 7, 7, 7, 7, 7, 7, 7, 7, 7, 7, 7, 7, 7, 7, 7, 7, 7, 7, 7, 7, 7, 7, 7, 7, 7, 7, 7, 7, 7, 7, 7, 7, 7, 7, 7, 7, 7, 7, 7, 7, 8, 8, 8, 8, 8, 8, 8, 8, 8, 8, 8, 8, 8, 8, 8, 8, 8, 8, 8, 8, 8, 8, 8, 8, 8, 8, 8, 8, 8, 8, 8, 8, 8, 8, 8, 8, 8, 8, 8, 8, 8, 8, 8, 8, 8, 8, 8, 8, 8, 8, 8, 8, 8, 8, 8, 8, 8, 8, 8, 8, 8, 8, 8, 8, 8, 8, 8, 8, 8, 8, 8, 8, 8, 8, 8, 8, 8, 8, 8, 8, 8, 8, 8, 8, 8, 8, 8, 8, 8, 8, 8, 8, 8, 8, 8, 8, 8, 8, 8, 8, 8, 8, 8, 8, 8, 8, 8, 8, 8, 8, 8, 8, 8, 8, 8, 8, 8, 8, 8, 8, 8, 8, 8, 8, 8, 8, 8, 8] : Str) (IntKind.u8.wrap a0)).bind fun v8 =>
        some (w64 (0 + (IntKind.i64.wrap (v8.toNat : Int))))
theorem spec120 (a0 : Int) (r : Int) (h : math_bits_Len64 a0 = some r) :
    call Tryd.prog T H (.fn 120) [.p (.lit (.int .u64 a0))] [] = some (.ret (.p (iv r)), []) := by
  refine Sat.fn fun Q hQ => ?_
  unfold math_bits_Len64 at h
  rw [call120]
  conv => arg 1; arg 7; unfold S03.c120 Tryd.f120; simp only [Option.getD_some]
  by_cases c1 : 4294967296 ≤ a0
  · have h := iteT h c1
    by_cases c2 : 65536 ≤ (shrI .u64 a0 32)
    · have h := iteT h c2
      by_cases c3 : 256 ≤ (shrI .u64 (shrI .u64 a0 32) 16)
      · have h := iteT h c3
        obtain ⟨v1, e_v1, h⟩ := ob h
        obtain ⟨e_v1a, e_v1b⟩ := idx_some e_v1
        simp only [go_sem, c1, c2, c3, List.append_eq, List.cons_append, List.nil_append, e_v1a, e_v1b]
        injection h with h; subst h
        exact Sat.ok hQ
      · have h := iteF h c3
        obtain ⟨v2, e_v2, h⟩ := ob h
        obtain ⟨e_v2a, e_v2b⟩ := idx_some e_v2
        simp only [go_sem, c1, c2, c3, List.append_eq, List.cons_append, List.nil_append, e_v2a, e_v2b]
        injection h with h; subst h
        exact Sat.ok hQ
    · have h := iteF h c2
      by_cases c4 : 256 ≤ (shrI .u64 a0 32)
      · have h := iteT h c4
        obtain ⟨v3, e_v3, h⟩ := ob h
        obtain ⟨e_v3a, e_v3b⟩ := idx_some e_v3
        simp only [go_sem, c1, c2, c4, List.append_eq, List.cons_append, List.nil_append, e_v3a, e_v3b]
        injection h with h; subst h
        exact Sat.ok hQ
      · have h := iteF h c4
        obtain ⟨v4, e_v4, h⟩ := ob h
        obtain ⟨e_v4a, e_v4b⟩ := idx_some e_v4
        simp only [go_sem, c1, c2, c4, List.append_eq, List.cons_append, List.nil_append, e_v4a, e_v4b]
        injection h with h; subst h
        exact Sat.ok hQ
  · have h := iteF h c1
    by_cases c5 : 65536 ≤ a0
    · have h := iteT h c5
      by_cases c6 : 256 ≤ (shrI .u64 a0 16)
      · have h := iteT h c6
        obtain ⟨v5, e_v5, h⟩ := ob h
        obtain ⟨e_v5a, e_v5b⟩ := idx_some e_v5
        simp only [go_sem, c1, c5, c6, List.append_eq, List.cons_append, List.nil_append, e_v5a, e_v5b]
        injection h with h; subst h
        exact Sat.ok hQ
      · have h := iteF h c6
        obtain ⟨v6, e_v6, h⟩ := ob h
        obtain ⟨e_v6a, e_v6b⟩ := idx_some e_v6
        simp only [go_sem, c1, c5, c6, List.append_eq, List.cons_append, List.nil_append, e_v6a, e_v6b]
        injection h with h; subst h
        exact Sat.ok hQ
    · have h := iteF h c5
      by_cases c7 : 256 ≤ a0
      · have h := iteT h c7
        obtain ⟨v7, e_v7, h⟩ := ob h
        obtain ⟨e_v7a, e_v7b⟩ := idx_some e_v7
        simp only [go_sem, c1, c5, c7, List.append_eq, List.cons_append, List.nil_append, e_v7a, e_v7b]
        injection h with h; subst h
        exact Sat.ok hQ
      · have h := iteF h c7
        obtain ⟨v8, e_v8, h⟩ := ob h
        obtain ⟨e_v8a, e_v8b⟩ := idx_some e_v8
        simp only [go_sem, c1, c5, c7, List.append_eq, List.cons_append, List.nil_append, e_v8a, e_v8b]
        injection h with h; subst h
        exact Sat.ok hQ

def internal_strconv_log10Pow2 (a0 : Int) : Option Int :=
  some (shrI .i64 (w64 (a0 * 78913)) 18)
theorem spec122 (a0 : Int) (r : Int) (h : internal_strconv_log10Pow2 a0 = some r) :
    call Tryd.prog T H (.fn 122) [.p (iv a0)] [] = some (.ret (.p (iv r)), []) := by
  refine Sat.fn fun Q hQ => ?_
  unfold internal_strconv_log10Pow2 at h
  rw [call122]
  conv => arg 1; arg 7; unfold S03.c122 Tryd.f122; simp only [Option.getD_some]
  simp only [go_sem]
  injection h with h; subst h
  exact Sat.ok hQ

def internal_strconv_bool2_int (a0 : Bool) : Option Int :=
  if a0 = true then
    some 1
  else
    some 0
theorem spec123 (a0 : Bool) (r : Int) (h : internal_strconv_bool2_int a0 = some r) :
    call Tryd.prog T H (.fn 123) [.p (bv a0)] [] = some (.ret (.p (iv r)), []) := by
  refine Sat.fn fun Q hQ => ?_
  unfold internal_strconv_bool2_int at h
  rw [call123]
  conv => arg 1; arg 7; unfold S03.c123 Tryd.f123; simp only [Option.getD_some]
  by_cases c1 : a0 = true
  · have h := iteT h c1
    simp only [go_sem, c1]
    injection h with h; subst h
    exact Sat.ok hQ
  · have h := iteF h c1
    have c1 := eq_false_of_ne_true c1
    simp only [go_sem, c1]
    injection h with h; subst h
    exact Sat.ok hQ

def internal_strconv_numDigits (a0 : Int) : Option Int :=
  (math_bits_Len64 a0).bind fun v1 =>
  (internal_strconv_log10Pow2 v1).bind fun v2 =>
  (idx pow10L v2).bind fun v3 =>
  (internal_strconv_bool2_int (decide (v3 ≤ a0))).bind fun v4 =>
  some (w64 (v2 + v4))
theorem spec108 (a0 : Int) (r : Int) (h : internal_strconv_numDigits a0 = some r) :
    call Tryd.prog T H (.fn 108) [.p (.lit (.int .u64 a0))] [] = some (.ret (.p (iv r)), []) := by
  refine Sat.fn fun Q hQ => ?_
  unfold internal_strconv_numDigits at h
  rw [call108]
  conv => arg 1; arg 7; unfold S03.c108 Tryd.f108; simp only [Option.getD_some]
  obtain ⟨v1, e_v1, h⟩ := ob h
  have e_v1c : call Tryd.prog T H (.fn 120) [.p (.lit (.int .u64 a0))] [] = some (.ret (.p (iv v1)), []) := spec120 a0 v1 e_v1
  obtain ⟨v2, e_v2, h⟩ := ob h
  have e_v2c : call Tryd.prog T H (.fn 122) [.p (iv v1)] [] = some (.ret (.p (iv v2)), []) := spec122 v1 v2 e_v2
  obtain ⟨v3, e_v3, h⟩ := ob h
  have e_v3t := tab_get (f := fun n => PV.lit (.int .u64 n)) e_v3
  simp only [pow10L, List.map_cons, List.map_nil, List.length_cons, List.length_nil, Nat.reduceAdd] at e_v3t
  obtain ⟨e_v3a, e_v3b, e_v3d⟩ := e_v3t
  obtain ⟨v4, e_v4, h⟩ := ob h
  have e_v4c : call Tryd.prog T H (.fn 123) [.p (bv (decide (v3 ≤ a0)))] [] = some (.ret (.p (iv v4)), []) := spec123 (decide (v3 ≤ a0)) v4 e_v4
  simp only [go_sem, e_v1c, e_v2c, e_v3a, e_v3b, e_v3d, Nat.mul_one, e_v4c]
  injection h with h; subst h
  exact Sat.ok hQ

def internal_strconv_isPowerOfTwo (a0 : Int) : Option Bool :=
  some ((bAnd .i64 a0 (w64 (a0 - 1))) == 0)
theorem spec124 (a0 : Int) (r : Bool) (h : internal_strconv_isPowerOfTwo a0 = some r) :
    call Tryd.prog T H (.fn 124) [.p (iv a0)] [] = some (.ret (.p (bv r)), []) := by
  refine Sat.fn fun Q hQ => ?_
  unfold internal_strconv_isPowerOfTwo at h
  rw [call124]
  conv => arg 1; arg 7; unfold S03.c124 Tryd.f124; simp only [Option.getD_some]
  simp only [go_sem]
  injection h with h; subst h
  exact Sat.ok hQ

def internal_strconv_formatBase10_mx (n : Nat) (a0 : List Int) (l0 : Nat) (a1 : Int) : Option (List Int) :=
  whileL n (a1, (l0 : Int), a0) (fun k1 (s1 : Int × Int × (List Int)) n1 =>
    if 8 ≤ s1.2.1 then
      (idx ([48, 48, 48, 49, 48, 50, 48, 51, 48, 52, 48, 53, 48, 54, 48, 55, 48, 56, 48, 57, 49, 48, 49, 49, 49, 50, 49, 51, 49, 52, 49, 53, 49, 54, 49, 55, 49, 56, 49, 57, 50, 48, 50, 49, 50, 50, 50, 51, 50, 52, 50, 53, 50, 54, 50, 55, 50, 56, 50, 57, 51, 48, 51, 49, 51, 50, 51, 51, 51, 52, 51, 53, 51, 54, 51, 55, 51, 56, 51, 57, 52, 48, 52, 49, 52, 50, 52, 51, 52, 52, 52, 53, 52, 54, 52, 55, 52, 56, 52, 57, 53, 48, 53, 49, 53, 50, 53, 51, 53, 52, 53, 53, 53, 54, 53, 55, 53, 56, 53, 57, 54, 48, 54, 49, 54, 50, 54, 51, 54, 52, 54, 53, 54, 54, 54, 55, 54, 56, 54, 57, 55, 48, 55, 49, 55, 50, 55, 51, 55, 52, 55, 53, 55, 54, 55, 55, 55, 56, 55, 57, 56, 48, 56, 49, 56, 50, 56, 51, 56, 52, 56, 53, 56, 54, 56, 55, 56, 56, 56, 57, 57, 48, 57, 49, 57, 50, 57, 51, 57, 52, 57, 53, 57, 54, 57, 55, 57, 56, 57, 57] : Str) (IntKind.u32.wrap ((IntKind.u32.wrap ((Int.tmod (Int.tmod (IntKind.u32.wrap (Int.tmod s1.1 100000000)) 10000) 100) * 2)) + 1))).bind fun v21 =>
      (idx ([48, 48, 48, 49, 48, 50, 48, 51, 48, 52, 48, 53, 48, 54, 48, 55, 48, 56, 48, 57, 49, 48, 49, 49, 49, 50, 49, 51, 49, 52, 49, 53, 49, 54, 49, 55, 49, 56, 49, 57, 50, 48, 50, 49, 50, 50, 50, 51, 50, 52, 50, 53, 50, 54, 50, 55, 50, 56, 50, 57, 51, 48, 51, 49, 51, 50, 51, 51, 51, 52, 51, 53, 51, 54, 51, 55, 51, 56, 51, 57, 52, 48, 52, 49, 52, 50, 52, 51, 52, 52, 52, 53, 52, 54, 52, 55, 52, 56, 52, 57, 53, 48, 53, 49, 53, 50, 53, 51, 53, 52, 53, 53, 53, 54, 53, 55, 53, 56, 53, 57, 54, 48, 54, 49, 54, 50, 54, 51, 54, 52, 54, 53, 54, 54, 54, 55, 54, 56, 54, 57, 55, 48, 55, 49, 55, 50, 55, 51, 55, 52, 55, 53, 55, 54, 55, 55, 55, 56, 55, 57, 56, 48, 56, 49, 56, 50, 56, 51, 56, 52, 56, 53, 56, 54, 56, 55, 56, 56, 56, 57, 57, 48, 57, 49, 57, 50, 57, 51, 57, 52, 57, 53, 57, 54, 57, 55, 57, 56, 57, 57] : Str) (IntKind.u32.wrap ((Int.tmod (Int.tmod (IntKind.u32.wrap (Int.tmod s1.1 100000000)) 10000) 100) * 2))).bind fun v22 =>
      (idxM l0 s1.2.2 (w64 (s1.2.1 - 1))).bind fun v23 =>
      (idxM l0 (List.set s1.2.2 ((w64 (s1.2.1 - 1)).toNat) (v21.toNat : Int)) (w64 (s1.2.1 - 2))).bind fun v24 =>
      (idx ([48, 48, 48, 49, 48, 50, 48, 51, 48, 52, 48, 53, 48, 54, 48, 55, 48, 56, 48, 57, 49, 48, 49, 49, 49, 50, 49, 51, 49, 52, 49, 53, 49, 54, 49, 55, 49, 56, 49, 57, 50, 48, 50, 49, 50, 50, 50, 51, 50, 52, 50, 53, 50, 54, 50, 55, 50, 56, 50, 57, 51, 48, 51, 49, 51, 50, 51, 51, 51, 52, 51, 53, 51, 54, 51, 55, 51, 56, 51, 57, 52, 48, 52, 49, 52, 50, 52, 51, 52, 52, 52, 53, 52, 54, 52, 55, 52, 56, 52, 57, 53, 48, 53, 49, 53, 50, 53, 51, 53, 52, 53, 53, 53, 54, 53, 55, 53, 56, 53, 57, 54, 48, 54, 49, 54, 50, 54, 51, 54, 52, 54, 53, 54, 54, 54, 55, 54, 56, 54, 57, 55, 48, 55, 49, 55, 50, 55, 51, 55, 52, 55, 53, 55, 54, 55, 55, 55, 56, 55, 57, 56, 48, 56, 49, 56, 50, 56, 51, 56, 52, 56, 53, 56, 54, 56, 55, 56, 56, 56, 57, 57, 48, 57, 49, 57, 50, 57, 51, 57, 52, 57, 53, 57, 54, 57, 55, 57, 56, 57, 57] : Str) (IntKind.u32.wrap ((IntKind.u32.wrap ((IntKind.u32.wrap (Int.tdiv (Int.tmod (IntKind.u32.wrap (Int.tmod s1.1 100000000)) 10000) 100)) * 2)) + 1))).bind fun v25 =>
      (idx ([48, 48, 48, 49, 48, 50, 48, 51, 48, 52, 48, 53, 48, 54, 48, 55, 48, 56, 48, 57, 49, 48, 49, 49, 49, 50, 49, 51, 49, 52, 49, 53, 49, 54, 49, 55, 49, 56, 49, 57, 50, 48, 50, 49, 50, 50, 50, 51, 50, 52, 50, 53, 50, 54, 50, 55, 50, 56, 50, 57, 51, 48, 51, 49, 51, 50, 51, 51, 51, 52, 51, 53, 51, 54, 51, 55, 51, 56, 51, 57, 52, 48, 52, 49, 52, 50, 52, 51, 52, 52, 52, 53, 52, 54, 52, 55, 52, 56, 52, 57, 53, 48, 53, 49, 53, 50, 53, 51, 53, 52, 53, 53, 53, 54, 53, 55, 53, 56, 53, 57, 54, 48, 54, 49, 54, 50, 54, 51, 54, 52, 54, 53, 54, 54, 54, 55, 54, 56, 54, 57, 55, 48, 55, 49, 55, 50, 55, 51, 55, 52, 55, 53, 55, 54, 55, 55, 55, 56, 55, 57, 56, 48, 56, 49, 56, 50, 56, 51, 56, 52, 56, 53, 56, 54, 56, 55, 56, 56, 56, 57, 57, 48, 57, 49, 57, 50, 57, 51, 57, 52, 57, 53, 57, 54, 57, 55, 57, 56, 57, 57] : Str) (IntKind.u32.wrap ((IntKind.u32.wrap (Int.tdiv (Int.tmod (IntKind.u32.wrap (Int.tmod s1.1 100000000)) 10000) 100)) * 2))).bind fun v26 =>
      (idxM l0 (List.set (List.set s1.2.2 ((w64 (s1.2.1 - 1)).toNat) (v21.toNat : Int)) ((w64 (s1.2.1 - 2)).toNat) (v22.toNat : Int)) (w64 (s1.2.1 - 3))).bind fun v27 =>
      (idxM l0 (List.set (List.set (List.set s1.2.2 ((w64 (s1.2.1 - 1)).toNat) (v21.toNat : Int)) ((w64 (s1.2.1 - 2)).toNat) (v22.toNat : Int)) ((w64 (s1.2.1 - 3)).toNat) (v25.toNat : Int)) (w64 (s1.2.1 - 4))).bind fun v28 =>
      (idx ([48, 48, 48, 49, 48, 50, 48, 51, 48, 52, 48, 53, 48, 54, 48, 55, 48, 56, 48, 57, 49, 48, 49, 49, 49, 50, 49, 51, 49, 52, 49, 53, 49, 54, 49, 55, 49, 56, 49, 57, 50, 48, 50, 49, 50, 50, 50, 51, 50, 52, 50, 53, 50, 54, 50, 55, 50, 56, 50, 57, 51, 48, 51, 49, 51, 50, 51, 51, 51, 52, 51, 53, 51, 54, 51, 55, 51, 56, 51, 57, 52, 48, 52, 49, 52, 50, 52, 51, 52, 52, 52, 53, 52, 54, 52, 55, 52, 56, 52, 57, 53, 48, 53, 49, 53, 50, 53, 51, 53, 52, 53, 53, 53, 54, 53, 55, 53, 56, 53, 57, 54, 48, 54, 49, 54, 50, 54, 51, 54, 52, 54, 53, 54, 54, 54, 55, 54, 56, 54, 57, 55, 48, 55, 49, 55, 50, 55, 51, 55, 52, 55, 53, 55, 54, 55, 55, 55, 56, 55, 57, 56, 48, 56, 49, 56, 50, 56, 51, 56, 52, 56, 53, 56, 54, 56, 55, 56, 56, 56, 57, 57, 48, 57, 49, 57, 50, 57, 51, 57, 52, 57, 53, 57, 54, 57, 55, 57, 56, 57, 57] : Str) (IntKind.u32.wrap ((IntKind.u32.wrap ((Int.tmod (IntKind.u32.wrap (Int.tdiv (IntKind.u32.wrap (Int.tmod s1.1 100000000)) 10000)) 100) * 2)) + 1))).bind fun v29 =>
      (idx ([48, 48, 48, 49, 48, 50, 48, 51, 48, 52, 48, 53, 48, 54, 48, 55, 48, 56, 48, 57, 49, 48, 49, 49, 49, 50, 49, 51, 49, 52, 49, 53, 49, 54, 49, 55, 49, 56, 49, 57, 50, 48, 50, 49, 50, 50, 50, 51, 50, 52, 50, 53, 50, 54, 50, 55, 50, 56, 50, 57, 51, 48, 51, 49, 51, 50, 51, 51, 51, 52, 51, 53, 51, 54, 51, 55, 51, 56, 51, 57, 52, 48, 52, 49, 52, 50, 52, 51, 52, 52, 52, 53, 52, 54, 52, 55, 52, 56, 52, 57, 53, 48, 53, 49, 53, 50, 53, 51, 53, 52, 53, 53, 53, 54, 53, 55, 53, 56, 53, 57, 54, 48, 54, 49, 54, 50, 54, 51, 54, 52, 54, 53, 54, 54, 54, 55, 54, 56, 54, 57, 55, 48, 55, 49, 55, 50, 55, 51, 55, 52, 55, 53, 55, 54, 55, 55, 55, 56, 55, 57, 56, 48, 56, 49, 56, 50, 56, 51, 56, 52, 56, 53, 56, 54, 56, 55, 56, 56, 56, 57, 57, 48, 57, 49, 57, 50, 57, 51, 57, 52, 57, 53, 57, 54, 57, 55, 57, 56, 57, 57] : Str) (IntKind.u32.wrap ((Int.tmod (IntKind.u32.wrap (Int.tdiv (IntKind.u32.wrap (Int.tmod s1.1 100000000)) 10000)) 100) * 2))).bind fun v30 =>
      (idxM l0 (List.set (List.set (List.set (List.set s1.2.2 ((w64 (s1.2.1 - 1)).toNat) (v21.toNat : Int)) ((w64 (s1.2.1 - 2)).toNat) (v22.toNat : Int)) ((w64 (s1.2.1 - 3)).toNat) (v25.toNat : Int)) ((w64 (s1.2.1 - 4)).toNat) (v26.toNat : Int)) (w64 (s1.2.1 - 5))).bind fun v31 =>
      (idxM l0 (List.set (List.set (List.set (List.set (List.set s1.2.2 ((w64 (s1.2.1 - 1)).toNat) (v21.toNat : Int)) ((w64 (s1.2.1 - 2)).toNat) (v22.toNat : Int)) ((w64 (s1.2.1 - 3)).toNat) (v25.toNat : Int)) ((w64 (s1.2.1 - 4)).toNat) (v26.toNat : Int)) ((w64 (s1.2.1 - 5)).toNat) (v29.toNat : Int)) (w64 (s1.2.1 - 6))).bind fun v32 =>
      (idx ([48, 48, 48, 49, 48, 50, 48, 51, 48, 52, 48, 53, 48, 54, 48, 55, 48, 56, 48, 57, 49, 48, 49, 49, 49, 50, 49, 51, 49, 52, 49, 53, 49, 54, 49, 55, 49, 56, 49, 57, 50, 48, 50, 49, 50, 50, 50, 51, 50, 52, 50, 53, 50, 54, 50, 55, 50, 56, 50, 57, 51, 48, 51, 49, 51, 50, 51, 51, 51, 52, 51, 53, 51, 54, 51, 55, 51, 56, 51, 57, 52, 48, 52, 49, 52, 50, 52, 51, 52, 52, 52, 53, 52, 54, 52, 55, 52, 56, 52, 57, 53, 48, 53, 49, 53, 50, 53, 51, 53, 52, 53, 53, 53, 54, 53, 55, 53, 56, 53, 57, 54, 48, 54, 49, 54, 50, 54, 51, 54, 52, 54, 53, 54, 54, 54, 55, 54, 56, 54, 57, 55, 48, 55, 49, 55, 50, 55, 51, 55, 52, 55, 53, 55, 54, 55, 55, 55, 56, 55, 57, 56, 48, 56, 49, 56, 50, 56, 51, 56, 52, 56, 53, 56, 54, 56, 55, 56, 56, 56, 57, 57, 48, 57, 49, 57, 50, 57, 51, 57, 52, 57, 53, 57, 54, 57, 55, 57, 56, 57, 57] : Str) (IntKind.u32.wrap ((IntKind.u32.wrap ((IntKind.u32.wrap (Int.tdiv (IntKind.u32.wrap (Int.tdiv (IntKind.u32.wrap (Int.tmod s1.1 100000000)) 10000)) 100)) * 2)) + 1))).bind fun v33 =>
      (idx ([48, 48, 48, 49, 48, 50, 48, 51, 48, 52, 48, 53, 48, 54, 48, 55, 48, 56, 48, 57, 49, 48, 49, 49, 49, 50, 49, 51, 49, 52, 49, 53, 49, 54, 49, 55, 49, 56, 49, 57, 50, 48, 50, 49, 50, 50, 50, 51, 50, 52, 50, 53, 50, 54, 50, 55, 50, 56, 50, 57, 51, 48, 51, 49, 51, 50, 51, 51, 51, 52, 51, 53, 51, 54, 51, 55, 51, 56, 51, 57, 52, 48, 52, 49, 52, 50, 52, 51, 52, 52, 52, 53, 52, 54, 52, 55, 52, 56, 52, 57, 53, 48, 53, 49, 53, 50, 53, 51, 53, 52, 53, 53, 53, 54, 53, 55, 53, 56, 53, 57, 54, 48, 54, 49, 54, 50, 54, 51, 54, 52, 54, 53, 54, 54, 54, 55, 54, 56, 54, 57, 55, 48, 55, 49, 55, 50, 55, 51, 55, 52, 55, 53, 55, 54, 55, 55, 55, 56, 55, 57, 56, 48, 56, 49, 56, 50, 56, 51, 56, 52, 56, 53, 56, 54, 56, 55, 56, 56, 56, 57, 57, 48, 57, 49, 57, 50, 57, 51, 57, 52, 57, 53, 57, 54, 57, 55, 57, 56, 57, 57] : Str) (IntKind.u32.wrap ((IntKind.u32.wrap (Int.tdiv (IntKind.u32.wrap (Int.tdiv (IntKind.u32.wrap (Int.tmod s1.1 100000000)) 10000)) 100)) * 2))).bind fun v34 =>
      (idxM l0 (List.set (List.set (List.set (List.set (List.set (List.set s1.2.2 ((w64 (s1.2.1 - 1)).toNat) (v21.toNat : Int)) ((w64 (s1.2.1 - 2)).toNat) (v22.toNat : Int)) ((w64 (s1.2.1 - 3)).toNat) (v25.toNat : Int)) ((w64 (s1.2.1 - 4)).toNat) (v26.toNat : Int)) ((w64 (s1.2.1 - 5)).toNat) (v29.toNat : Int)) ((w64 (s1.2.1 - 6)).toNat) (v30.toNat : Int)) (w64 (s1.2.1 - 7))).bind fun v35 =>
      (idxM l0 (List.set (List.set (List.set (List.set (List.set (List.set (List.set s1.2.2 ((w64 (s1.2.1 - 1)).toNat) (v21.toNat : Int)) ((w64 (s1.2.1 - 2)).toNat) (v22.toNat : Int)) ((w64 (s1.2.1 - 3)).toNat) (v25.toNat : Int)) ((w64 (s1.2.1 - 4)).toNat) (v26.toNat : Int)) ((w64 (s1.2.1 - 5)).toNat) (v29.toNat : Int)) ((w64 (s1.2.1 - 6)).toNat) (v30.toNat : Int)) ((w64 (s1.2.1 - 7)).toNat) (v33.toNat : Int)) (w64 (s1.2.1 - 8))).bind fun v36 =>
      n1 (IntKind.u64.wrap (Int.tdiv s1.1 100000000), w64 (s1.2.1 - 8), (List.set (List.set (List.set (List.set (List.set (List.set (List.set (List.set s1.2.2 ((w64 (s1.2.1 - 1)).toNat) (v21.toNat : Int)) ((w64 (s1.2.1 - 2)).toNat) (v22.toNat : Int)) ((w64 (s1.2.1 - 3)).toNat) (v25.toNat : Int)) ((w64 (s1.2.1 - 4)).toNat) (v26.toNat : Int)) ((w64 (s1.2.1 - 5)).toNat) (v29.toNat : Int)) ((w64 (s1.2.1 - 6)).toNat) (v30.toNat : Int)) ((w64 (s1.2.1 - 7)).toNat) (v33.toNat : Int)) ((w64 (s1.2.1 - 8)).toNat) (v34.toNat : Int)))
    else
      k1 (s1.1, s1.2.1, s1.2.2)) fun s1 =>
  if 4 ≤ s1.2.1 then
    (idx ([48, 48, 48, 49, 48, 50, 48, 51, 48, 52, 48, 53, 48, 54, 48, 55, 48, 56, 48, 57, 49, 48, 49, 49, 49, 50, 49, 51, 49, 52, 49, 53, 49, 54, 49, 55, 49, 56, 49, 57, 50, 48, 50, 49, 50, 50, 50, 51, 50, 52, 50, 53, 50, 54, 50, 55, 50, 56, 50, 57, 51, 48, 51, 49, 51, 50, 51, 51, 51, 52, 51, 53, 51, 54, 51, 55, 51, 56, 51, 57, 52, 48, 52, 49, 52, 50, 52, 51, 52, 52, 52, 53, 52, 54, 52, 55, 52, 56, 52, 57, 53, 48, 53, 49, 53, 50, 53, 51, 53, 52, 53, 53, 53, 54, 53, 55, 53, 56, 53, 57, 54, 48, 54, 49, 54, 50, 54, 51, 54, 52, 54, 53, 54, 54, 54, 55, 54, 56, 54, 57, 55, 48, 55, 49, 55, 50, 55, 51, 55, 52, 55, 53, 55, 54, 55, 55, 55, 56, 55, 57, 56, 48, 56, 49, 56, 50, 56, 51, 56, 52, 56, 53, 56, 54, 56, 55, 56, 56, 56, 57, 57, 48, 57, 49, 57, 50, 57, 51, 57, 52, 57, 53, 57, 54, 57, 55, 57, 56, 57, 57] : Str) (IntKind.u32.wrap ((IntKind.u32.wrap ((Int.tmod (Int.tmod (IntKind.u32.wrap s1.1) 10000) 100) * 2)) + 1))).bind fun v1 =>
    (idx ([48, 48, 48, 49, 48, 50, 48, 51, 48, 52, 48, 53, 48, 54, 48, 55, 48, 56, 48, 57, 49, 48, 49, 49, 49, 50, 49, 51, 49, 52, 49, 53, 49, 54, 49, 55, 49, 56, 49, 57, 50, 48, 50, 49, 50, 50, 50, 51, 50, 52, 50, 53, 50, 54, 50, 55, 50, 56, 50, 57, 51, 48, 51, 49, 51, 50, 51, 51, 51, 52, 51, 53, 51, 54, 51, 55, 51, 56, 51, 57, 52, 48, 52, 49, 52, 50, 52, 51, 52, 52, 52, 53, 52, 54, 52, 55, 52, 56, 52, 57, 53, 48, 53, 49, 53, 50, 53, 51, 53, 52, 53, 53, 53, 54, 53, 55, 53, 56, 53, 57, 54, 48, 54, 49, 54, 50, 54, 51, 54, 52, 54, 53, 54, 54, 54, 55, 54, 56, 54, 57, 55, 48, 55, 49, 55, 50, 55, 51, 55, 52, 55, 53, 55, 54, 55, 55, 55, 56, 55, 57, 56, 48, 56, 49, 56, 50, 56, 51, 56, 52, 56, 53, 56, 54, 56, 55, 56, 56, 56, 57, 57, 48, 57, 49, 57, 50, 57, 51, 57, 52, 57, 53, 57, 54, 57, 55, 57, 56, 57, 57] : Str) (IntKind.u32.wrap ((Int.tmod (Int.tmod (IntKind.u32.wrap s1.1) 10000) 100) * 2))).bind fun v2 =>
    (idxM l0 s1.2.2 (w64 (s1.2.1 - 1))).bind fun v3 =>
    (idxM l0 (List.set s1.2.2 ((w64 (s1.2.1 - 1)).toNat) (v1.toNat : Int)) (w64 (s1.2.1 - 2))).bind fun v4 =>
    (idx ([48, 48, 48, 49, 48, 50, 48, 51, 48, 52, 48, 53, 48, 54, 48, 55, 48, 56, 48, 57, 49, 48, 49, 49, 49, 50, 49, 51, 49, 52, 49, 53, 49, 54, 49, 55, 49, 56, 49, 57, 50, 48, 50, 49, 50, 50, 50, 51, 50, 52, 50, 53, 50, 54, 50, 55, 50, 56, 50, 57, 51, 48, 51, 49, 51, 50, 51, 51, 51, 52, 51, 53, 51, 54, 51, 55, 51, 56, 51, 57, 52, 48, 52, 49, 52, 50, 52, 51, 52, 52, 52, 53, 52, 54, 52, 55, 52, 56, 52, 57, 53, 48, 53, 49, 53, 50, 53, 51, 53, 52, 53, 53, 53, 54, 53, 55, 53, 56, 53, 57, 54, 48, 54, 49, 54, 50, 54, 51, 54, 52, 54, 53, 54, 54, 54, 55, 54, 56, 54, 57, 55, 48, 55, 49, 55, 50, 55, 51, 55, 52, 55, 53, 55, 54, 55, 55, 55, 56, 55, 57, 56, 48, 56, 49, 56, 50, 56, 51, 56, 52, 56, 53, 56, 54, 56, 55, 56, 56, 56, 57, 57, 48, 57, 49, 57, 50, 57, 51, 57, 52, 57, 53, 57, 54, 57, 55, 57, 56, 57, 57] : Str) (IntKind.u32.wrap ((IntKind.u32.wrap ((IntKind.u32.wrap (Int.tdiv (Int.tmod (IntKind.u32.wrap s1.1) 10000) 100)) * 2)) + 1))).bind fun v5 =>
    (idx ([48, 48, 48, 49, 48, 50, 48, 51, 48, 52, 48, 53, 48, 54, 48, 55, 48, 56, 48, 57, 49, 48, 49, 49, 49, 50, 49, 51, 49, 52, 49, 53, 49, 54, 49, 55, 49, 56, 49, 57, 50, 48, 50, 49, 50, 50, 50, 51, 50, 52, 50, 53, 50, 54, 50, 55, 50, 56, 50, 57, 51, 48, 51, 49, 51, 50, 51, 51, 51, 52, 51, 53, 51, 54, 51, 55, 51, 56, 51, 57, 52, 48, 52, 49, 52, 50, 52, 51, 52, 52, 52, 53, 52, 54, 52, 55, 52, 56, 52, 57, 53, 48, 53, 49, 53, 50, 53, 51, 53, 52, 53, 53, 53, 54, 53, 55, 53, 56, 53, 57, 54, 48, 54, 49, 54, 50, 54, 51, 54, 52, 54, 53, 54, 54, 54, 55, 54, 56, 54, 57, 55, 48, 55, 49, 55, 50, 55, 51, 55, 52, 55, 53, 55, 54, 55, 55, 55, 56, 55, 57, 56, 48, 56, 49, 56, 50, 56, 51, 56, 52, 56, 53, 56, 54, 56, 55, 56, 56, 56, 57, 57, 48, 57, 49, 57, 50, 57, 51, 57, 52, 57, 53, 57, 54, 57, 55, 57, 56, 57, 57] : Str) (IntKind.u32.wrap ((IntKind.u32.wrap (Int.tdiv (Int.tmod (IntKind.u32.wrap s1.1) 10000) 100)) * 2))).bind fun v6 =>
    (idxM l0 (List.set (List.set s1.2.2 ((w64 (s1.2.1 - 1)).toNat) (v1.toNat : Int)) ((w64 (s1.2.1 - 2)).toNat) (v2.toNat : Int)) (w64 (s1.2.1 - 3))).bind fun v7 =>
    (idxM l0 (List.set (List.set (List.set s1.2.2 ((w64 (s1.2.1 - 1)).toNat) (v1.toNat : Int)) ((w64 (s1.2.1 - 2)).toNat) (v2.toNat : Int)) ((w64 (s1.2.1 - 3)).toNat) (v5.toNat : Int)) (w64 (s1.2.1 - 4))).bind fun v8 =>
    if 2 ≤ (w64 (s1.2.1 - 4)) then
      (idx ([48, 48, 48, 49, 48, 50, 48, 51, 48, 52, 48, 53, 48, 54, 48, 55, 48, 56, 48, 57, 49, 48, 49, 49, 49, 50, 49, 51, 49, 52, 49, 53, 49, 54, 49, 55, 49, 56, 49, 57, 50, 48, 50, 49, 50, 50, 50, 51, 50, 52, 50, 53, 50, 54, 50, 55, 50, 56, 50, 57, 51, 48, 51, 49, 51, 50, 51, 51, 51, 52, 51, 53, 51, 54, 51, 55, 51, 56, 51, 57, 52, 48, 52, 49, 52, 50, 52, 51, 52, 52, 52, 53, 52, 54, 52, 55, 52, 56, 52, 57, 53, 48, 53, 49, 53, 50, 53, 51, 53, 52, 53, 53, 53, 54, 53, 55, 53, 56, 53, 57, 54, 48, 54, 49, 54, 50, 54, 51, 54, 52, 54, 53, 54, 54, 54, 55, 54, 56, 54, 57, 55, 48, 55, 49, 55, 50, 55, 51, 55, 52, 55, 53, 55, 54, 55, 55, 55, 56, 55, 57, 56, 48, 56, 49, 56, 50, 56, 51, 56, 52, 56, 53, 56, 54, 56, 55, 56, 56, 56, 57, 57, 48, 57, 49, 57, 50, 57, 51, 57, 52, 57, 53, 57, 54, 57, 55, 57, 56, 57, 57] : Str) (IntKind.u32.wrap ((IntKind.u32.wrap ((Int.tmod (IntKind.u32.wrap (Int.tdiv (IntKind.u32.wrap s1.1) 10000)) 100) * 2)) + 1))).bind fun v9 =>
      (idx ([48, 48, 48, 49, 48, 50, 48, 51, 48, 52, 48, 53, 48, 54, 48, 55, 48, 56, 48, 57, 49, 48, 49, 49, 49, 50, 49, 51, 49, 52, 49, 53, 49, 54, 49, 55, 49, 56, 49, 57, 50, 48, 50, 49, 50, 50, 50, 51, 50, 52, 50, 53, 50, 54, 50, 55, 50, 56, 50, 57, 51, 48, 51, 49, 51, 50, 51, 51, 51, 52, 51, 53, 51, 54, 51, 55, 51, 56, 51, 57, 52, 48, 52, 49, 52, 50, 52, 51, 52, 52, 52, 53, 52, 54, 52, 55, 52, 56, 52, 57, 53, 48, 53, 49, 53, 50, 53, 51, 53, 52, 53, 53, 53, 54, 53, 55, 53, 56, 53, 57, 54, 48, 54, 49, 54, 50, 54, 51, 54, 52, 54, 53, 54, 54, 54, 55, 54, 56, 54, 57, 55, 48, 55, 49, 55, 50, 55, 51, 55, 52, 55, 53, 55, 54, 55, 55, 55, 56, 55, 57, 56, 48, 56, 49, 56, 50, 56, 51, 56, 52, 56, 53, 56, 54, 56, 55, 56, 56, 56, 57, 57, 48, 57, 49, 57, 50, 57, 51, 57, 52, 57, 53, 57, 54, 57, 55, 57, 56, 57, 57] : Str) (IntKind.u32.wrap ((Int.tmod (IntKind.u32.wrap (Int.tdiv (IntKind.u32.wrap s1.1) 10000)) 100) * 2))).bind fun v10 =>
      (idxM l0 (List.set (List.set (List.set (List.set s1.2.2 ((w64 (s1.2.1 - 1)).toNat) (v1.toNat : Int)) ((w64 (s1.2.1 - 2)).toNat) (v2.toNat : Int)) ((w64 (s1.2.1 - 3)).toNat) (v5.toNat : Int)) ((w64 (s1.2.1 - 4)).toNat) (v6.toNat : Int)) (w64 ((w64 (s1.2.1 - 4)) - 1))).bind fun v11 =>
      (idxM l0 (List.set (List.set (List.set (List.set (List.set s1.2.2 ((w64 (s1.2.1 - 1)).toNat) (v1.toNat : Int)) ((w64 (s1.2.1 - 2)).toNat) (v2.toNat : Int)) ((w64 (s1.2.1 - 3)).toNat) (v5.toNat : Int)) ((w64 (s1.2.1 - 4)).toNat) (v6.toNat : Int)) ((w64 ((w64 (s1.2.1 - 4)) - 1)).toNat) (v9.toNat : Int)) (w64 ((w64 (s1.2.1 - 4)) - 2))).bind fun v12 =>
      if 0 < (w64 ((w64 (s1.2.1 - 4)) - 2)) then
        (idxM l0 (List.set (List.set (List.set (List.set (List.set (List.set s1.2.2 ((w64 (s1.2.1 - 1)).toNat) (v1.toNat : Int)) ((w64 (s1.2.1 - 2)).toNat) (v2.toNat : Int)) ((w64 (s1.2.1 - 3)).toNat) (v5.toNat : Int)) ((w64 (s1.2.1 - 4)).toNat) (v6.toNat : Int)) ((w64 ((w64 (s1.2.1 - 4)) - 1)).toNat) (v9.toNat : Int)) ((w64 ((w64 (s1.2.1 - 4)) - 2)).toNat) (v10.toNat : Int)) 0).bind fun v13 =>
        some (List.set (List.set (List.set (List.set (List.set (List.set (List.set s1.2.2 ((w64 (s1.2.1 - 1)).toNat) (v1.toNat : Int)) ((w64 (s1.2.1 - 2)).toNat) (v2.toNat : Int)) ((w64 (s1.2.1 - 3)).toNat) (v5.toNat : Int)) ((w64 (s1.2.1 - 4)).toNat) (v6.toNat : Int)) ((w64 ((w64 (s1.2.1 - 4)) - 1)).toNat) (v9.toNat : Int)) ((w64 ((w64 (s1.2.1 - 4)) - 2)).toNat) (v10.toNat : Int)) 0 (IntKind.u8.wrap (IntKind.u32.wrap (48 + (IntKind.u32.wrap (Int.tdiv (IntKind.u32.wrap (Int.tdiv (IntKind.u32.wrap s1.1) 10000)) 100))))))
      else
        some (List.set (List.set (List.set (List.set (List.set (List.set s1.2.2 ((w64 (s1.2.1 - 1)).toNat) (v1.toNat : Int)) ((w64 (s1.2.1 - 2)).toNat) (v2.toNat : Int)) ((w64 (s1.2.1 - 3)).toNat) (v5.toNat : Int)) ((w64 (s1.2.1 - 4)).toNat) (v6.toNat : Int)) ((w64 ((w64 (s1.2.1 - 4)) - 1)).toNat) (v9.toNat : Int)) ((w64 ((w64 (s1.2.1 - 4)) - 2)).toNat) (v10.toNat : Int))
    else
      if 0 < (w64 (s1.2.1 - 4)) then
        (idxM l0 (List.set (List.set (List.set (List.set s1.2.2 ((w64 (s1.2.1 - 1)).toNat) (v1.toNat : Int)) ((w64 (s1.2.1 - 2)).toNat) (v2.toNat : Int)) ((w64 (s1.2.1 - 3)).toNat) (v5.toNat : Int)) ((w64 (s1.2.1 - 4)).toNat) (v6.toNat : Int)) 0).bind fun v14 =>
        some (List.set (List.set (List.set (List.set (List.set s1.2.2 ((w64 (s1.2.1 - 1)).toNat) (v1.toNat : Int)) ((w64 (s1.2.1 - 2)).toNat) (v2.toNat : Int)) ((w64 (s1.2.1 - 3)).toNat) (v5.toNat : Int)) ((w64 (s1.2.1 - 4)).toNat) (v6.toNat : Int)) 0 (IntKind.u8.wrap (IntKind.u32.wrap (48 + (IntKind.u32.wrap (Int.tdiv (IntKind.u32.wrap s1.1) 10000))))))
      else
        some (List.set (List.set (List.set (List.set s1.2.2 ((w64 (s1.2.1 - 1)).toNat) (v1.toNat : Int)) ((w64 (s1.2.1 - 2)).toNat) (v2.toNat : Int)) ((w64 (s1.2.1 - 3)).toNat) (v5.toNat : Int)) ((w64 (s1.2.1 - 4)).toNat) (v6.toNat : Int))
  else
    if 2 ≤ s1.2.1 then
      (idx ([48, 48, 48, 49, 48, 50, 48, 51, 48, 52, 48, 53, 48, 54, 48, 55, 48, 56, 48, 57, 49, 48, 49, 49, 49, 50, 49, 51, 49, 52, 49, 53, 49, 54, 49, 55, 49, 56, 49, 57, 50, 48, 50, 49, 50, 50, 50, 51, 50, 52, 50, 53, 50, 54, 50, 55, 50, 56, 50, 57, 51, 48, 51, 49, 51, 50, 51, 51, 51, 52, 51, 53, 51, 54, 51, 55, 51, 56, 51, 57, 52, 48, 52, 49, 52, 50, 52, 51, 52, 52, 52, 53, 52, 54, 52, 55, 52, 56, 52, 57, 53, 48, 53, 49, 53, 50, 53, 51, 53, 52, 53, 53, 53, 54, 53, 55, 53, 56, 53, 57, 54, 48, 54, 49, 54, 50, 54, 51, 54, 52, 54, 53, 54, 54, 54, 55, 54, 56, 54, 57, 55, 48, 55, 49, 55, 50, 55, 51, 55, 52, 55, 53, 55, 54, 55, 55, 55, 56, 55, 57, 56, 48, 56, 49, 56, 50, 56, 51, 56, 52, 56, 53, 56, 54, 56, 55, 56, 56, 56, 57, 57, 48, 57, 49, 57, 50, 57, 51, 57, 52, 57, 53, 57, 54, 57, 55, 57, 56, 57, 57] : Str) (IntKind.u32.wrap ((IntKind.u32.wrap ((Int.tmod (IntKind.u32.wrap s1.1) 100) * 2)) + 1))).bind fun v15 =>
      (idx ([48, 48, 48, 49, 48, 50, 48, 51, 48, 52, 48, 53, 48, 54, 48, 55, 48, 56, 48, 57, 49, 48, 49, 49, 49, 50, 49, 51, 49, 52, 49, 53, 49, 54, 49, 55, 49, 56, 49, 57, 50, 48, 50, 49, 50, 50, 50, 51, 50, 52, 50, 53, 50, 54, 50, 55, 50, 56, 50, 57, 51, 48, 51, 49, 51, 50, 51, 51, 51, 52, 51, 53, 51, 54, 51, 55, 51, 56, 51, 57, 52, 48, 52, 49, 52, 50, 52, 51, 52, 52, 52, 53, 52, 54, 52, 55, 52, 56, 52, 57, 53, 48, 53, 49, 53, 50, 53, 51, 53, 52, 53, 53, 53, 54, 53, 55, 53, 56, 53, 57, 54, 48, 54, 49, 54, 50, 54, 51, 54, 52, 54, 53, 54, 54, 54, 55, 54, 56, 54, 57, 55, 48, 55, 49, 55, 50, 55, 51, 55, 52, 55, 53, 55, 54, 55, 55, 55, 56, 55, 57, 56, 48, 56, 49, 56, 50, 56, 51, 56, 52, 56, 53, 56, 54, 56, 55, 56, 56, 56, 57, 57, 48, 57, 49, 57, 50, 57, 51, 57, 52, 57, 53, 57, 54, 57, 55, 57, 56, 57, 57] : Str) (IntKind.u32.wrap ((Int.tmod (IntKind.u32.wrap s1.1) 100) * 2))).bind fun v16 =>
      (idxM l0 s1.2.2 (w64 (s1.2.1 - 1))).bind fun v17 =>
      (idxM l0 (List.set s1.2.2 ((w64 (s1.2.1 - 1)).toNat) (v15.toNat : Int)) (w64 (s1.2.1 - 2))).bind fun v18 =>
      if 0 < (w64 (s1.2.1 - 2)) then
        (idxM l0 (List.set (List.set s1.2.2 ((w64 (s1.2.1 - 1)).toNat) (v15.toNat : Int)) ((w64 (s1.2.1 - 2)).toNat) (v16.toNat : Int)) 0).bind fun v19 =>
        some (List.set (List.set (List.set s1.2.2 ((w64 (s1.2.1 - 1)).toNat) (v15.toNat : Int)) ((w64 (s1.2.1 - 2)).toNat) (v16.toNat : Int)) 0 (IntKind.u8.wrap (IntKind.u32.wrap (48 + (IntKind.u32.wrap (Int.tdiv (IntKind.u32.wrap s1.1) 100))))))
      else
        some (List.set (List.set s1.2.2 ((w64 (s1.2.1 - 1)).toNat) (v15.toNat : Int)) ((w64 (s1.2.1 - 2)).toNat) (v16.toNat : Int))
    else
      if 0 < s1.2.1 then
        (idxM l0 s1.2.2 0).bind fun v20 =>
        some (List.set s1.2.2 0 (IntKind.u8.wrap (IntKind.u32.wrap (48 + (IntKind.u32.wrap s1.1)))))
      else
        some s1.2.2
theorem spec109_mx (n : Nat) (σ : List AObj) (p0 : Nat) (g0 : Nat) (hp0 : p0 < σ.length) (a0 : List Int) (l0 : Nat) (a1 : Int) (r : List Int) (h : internal_strconv_formatBase10_mx n a0 l0 a1 = some r) :
    call Tryd.prog T H (.fn 109) [.ms p0 g0 1 0 l0, .p (.lit (.int .u64 a1))] (List.set σ p0 (.arr g0 1 (List.map (rowA rowU8) a0))) = some (.ret (.p (.tup [])), (List.set σ p0 (.arr g0 1 (List.map (rowA rowU8) r)))) := by
  refine Sat.fn fun Q hQ => ?_
  unfold internal_strconv_formatBase10_mx at h
  rw [call109]
  conv => arg 1; arg 7; unfold S03.c109 Tryd.f109; simp only [Option.getD_some]
  simp only [go_sem, hp0, fun k => Nat.lt_add_right k hp0, Nat.not_le_of_lt hp0, fun k => Nat.not_le_of_lt (Nat.lt_add_right k hp0)]
  refine run_whileL (c := L109_0) (live := [0, 1, 4]) (by simp only [go_sem]) (M := fun (s1 : Int × Int × (List Int)) => [(0, .ms p0 g0 1 0 l0), (1, .p (.lit (.int .u64 s1.1))), (4, .p (iv s1.2.1))]) (Z := fun (s1 : Int × Int × (List Int)) => (List.set σ p0 (.arr g0 1 (List.map (rowA rowU8) s1.2.2)))) (N := fun (s1 : Int × Int × (List Int)) => ⟨[(0, .ms p0 g0 1 0 l0), (1, .p (.lit (.int .u64 s1.1))), (4, .p (iv s1.2.1))], (List.set σ p0 (.arr g0 1 (List.map (rowA rowU8) s1.2.2))), [], none, false⟩) h rfl rfl (fun _ => rfl) ?_ ?_
  · intro s1 h
    try dsimp only at h ⊢
    by_cases c1 : 4 ≤ s1.2.1
    · have h := iteT h c1
      obtain ⟨v1, e_v1, h⟩ := ob h
      obtain ⟨e_v1a, e_v1b⟩ := idx_some e_v1
      obtain ⟨v2, e_v2, h⟩ := ob h
      obtain ⟨e_v2a, e_v2b⟩ := idx_some e_v2
      obtain ⟨v3, e_v3, h⟩ := ob h
      obtain ⟨e_v3a, e_v3b, e_v3d⟩ := idxM_some e_v3
      have e_y1 : List.set (List.map (rowA rowU8) s1.2.2) ((w64 (s1.2.1 - 1)).toNat) [.p (.lit (.int .u8 (v1.toNat : Int)))] = List.map (rowA rowU8) (List.set s1.2.2 ((w64 (s1.2.1 - 1)).toNat) (v1.toNat : Int)) := map_set' (by first | rfl | simp only [go_sem, List.map_cons, List.map_nil])
      obtain ⟨v4, e_v4, h⟩ := ob h
      obtain ⟨e_v4a, e_v4b, e_v4d⟩ := idxM_some e_v4
      have e_y2 : List.set (List.map (rowA rowU8) (List.set s1.2.2 ((w64 (s1.2.1 - 1)).toNat) (v1.toNat : Int))) ((w64 (s1.2.1 - 2)).toNat) [.p (.lit (.int .u8 (v2.toNat : Int)))] = List.map (rowA rowU8) (List.set (List.set s1.2.2 ((w64 (s1.2.1 - 1)).toNat) (v1.toNat : Int)) ((w64 (s1.2.1 - 2)).toNat) (v2.toNat : Int)) := map_set' (by first | rfl | simp only [go_sem, List.map_cons, List.map_nil])
      obtain ⟨v5, e_v5, h⟩ := ob h
      obtain ⟨e_v5a, e_v5b⟩ := idx_some e_v5
      obtain ⟨v6, e_v6, h⟩ := ob h
      obtain ⟨e_v6a, e_v6b⟩ := idx_some e_v6
      obtain ⟨v7, e_v7, h⟩ := ob h
      obtain ⟨e_v7a, e_v7b, e_v7d⟩ := idxM_some e_v7
      have e_y3 : List.set (List.map (rowA rowU8) (List.set (List.set s1.2.2 ((w64 (s1.2.1 - 1)).toNat) (v1.toNat : Int)) ((w64 (s1.2.1 - 2)).toNat) (v2.toNat : Int))) ((w64 (s1.2.1 - 3)).toNat) [.p (.lit (.int .u8 (v5.toNat : Int)))] = List.map (rowA rowU8) (List.set (List.set (List.set s1.2.2 ((w64 (s1.2.1 - 1)).toNat) (v1.toNat : Int)) ((w64 (s1.2.1 - 2)).toNat) (v2.toNat : Int)) ((w64 (s1.2.1 - 3)).toNat) (v5.toNat : Int)) := map_set' (by first | rfl | simp only [go_sem, List.map_cons, List.map_nil])
      obtain ⟨v8, e_v8, h⟩ := ob h
      obtain ⟨e_v8a, e_v8b, e_v8d⟩ := idxM_some e_v8
      have e_y4 : List.set (List.map (rowA rowU8) (List.set (List.set (List.set s1.2.2 ((w64 (s1.2.1 - 1)).toNat) (v1.toNat : Int)) ((w64 (s1.2.1 - 2)).toNat) (v2.toNat : Int)) ((w64 (s1.2.1 - 3)).toNat) (v5.toNat : Int))) ((w64 (s1.2.1 - 4)).toNat) [.p (.lit (.int .u8 (v6.toNat : Int)))] = List.map (rowA rowU8) (List.set (List.set (List.set (List.set s1.2.2 ((w64 (s1.2.1 - 1)).toNat) (v1.toNat : Int)) ((w64 (s1.2.1 - 2)).toNat) (v2.toNat : Int)) ((w64 (s1.2.1 - 3)).toNat) (v5.toNat : Int)) ((w64 (s1.2.1 - 4)).toNat) (v6.toNat : Int)) := map_set' (by first | rfl | simp only [go_sem, List.map_cons, List.map_nil])
      by_cases c2 : 2 ≤ (w64 (s1.2.1 - 4))
      · have h := iteT h c2
        obtain ⟨v9, e_v9, h⟩ := ob h
        obtain ⟨e_v9a, e_v9b⟩ := idx_some e_v9
        obtain ⟨v10, e_v10, h⟩ := ob h
        obtain ⟨e_v10a, e_v10b⟩ := idx_some e_v10
        obtain ⟨v11, e_v11, h⟩ := ob h
        obtain ⟨e_v11a, e_v11b, e_v11d⟩ := idxM_some e_v11
        have e_y5 : List.set (List.map (rowA rowU8) (List.set (List.set (List.set (List.set s1.2.2 ((w64 (s1.2.1 - 1)).toNat) (v1.toNat : Int)) ((w64 (s1.2.1 - 2)).toNat) (v2.toNat : Int)) ((w64 (s1.2.1 - 3)).toNat) (v5.toNat : Int)) ((w64 (s1.2.1 - 4)).toNat) (v6.toNat : Int))) ((w64 ((w64 (s1.2.1 - 4)) - 1)).toNat) [.p (.lit (.int .u8 (v9.toNat : Int)))] = List.map (rowA rowU8) (List.set (List.set (List.set (List.set (List.set s1.2.2 ((w64 (s1.2.1 - 1)).toNat) (v1.toNat : Int)) ((w64 (s1.2.1 - 2)).toNat) (v2.toNat : Int)) ((w64 (s1.2.1 - 3)).toNat) (v5.toNat : Int)) ((w64 (s1.2.1 - 4)).toNat) (v6.toNat : Int)) ((w64 ((w64 (s1.2.1 - 4)) - 1)).toNat) (v9.toNat : Int)) := map_set' (by first | rfl | simp only [go_sem, List.map_cons, List.map_nil])
        obtain ⟨v12, e_v12, h⟩ := ob h
        obtain ⟨e_v12a, e_v12b, e_v12d⟩ := idxM_some e_v12
        have e_y6 : List.set (List.map (rowA rowU8) (List.set (List.set (List.set (List.set (List.set s1.2.2 ((w64 (s1.2.1 - 1)).toNat) (v1.toNat : Int)) ((w64 (s1.2.1 - 2)).toNat) (v2.toNat : Int)) ((w64 (s1.2.1 - 3)).toNat) (v5.toNat : Int)) ((w64 (s1.2.1 - 4)).toNat) (v6.toNat : Int)) ((w64 ((w64 (s1.2.1 - 4)) - 1)).toNat) (v9.toNat : Int))) ((w64 ((w64 (s1.2.1 - 4)) - 2)).toNat) [.p (.lit (.int .u8 (v10.toNat : Int)))] = List.map (rowA rowU8) (List.set (List.set (List.set (List.set (List.set (List.set s1.2.2 ((w64 (s1.2.1 - 1)).toNat) (v1.toNat : Int)) ((w64 (s1.2.1 - 2)).toNat) (v2.toNat : Int)) ((w64 (s1.2.1 - 3)).toNat) (v5.toNat : Int)) ((w64 (s1.2.1 - 4)).toNat) (v6.toNat : Int)) ((w64 ((w64 (s1.2.1 - 4)) - 1)).toNat) (v9.toNat : Int)) ((w64 ((w64 (s1.2.1 - 4)) - 2)).toNat) (v10.toNat : Int)) := map_set' (by first | rfl | simp only [go_sem, List.map_cons, List.map_nil])
        by_cases c3 : 0 < (w64 ((w64 (s1.2.1 - 4)) - 2))
        · have h := iteT h c3
          obtain ⟨v13, e_v13, h⟩ := ob h
          obtain ⟨e_v13a, e_v13b, e_v13d⟩ := idxM_some e_v13
          simp only [Int.reduceToNat] at e_v13b
          simp only [Int.reduceToNat] at e_v13d
          have e_y7 : List.set (List.map (rowA rowU8) (List.set (List.set (List.set (List.set (List.set (List.set s1.2.2 ((w64 (s1.2.1 - 1)).toNat) (v1.toNat : Int)) ((w64 (s1.2.1 - 2)).toNat) (v2.toNat : Int)) ((w64 (s1.2.1 - 3)).toNat) (v5.toNat : Int)) ((w64 (s1.2.1 - 4)).toNat) (v6.toNat : Int)) ((w64 ((w64 (s1.2.1 - 4)) - 1)).toNat) (v9.toNat : Int)) ((w64 ((w64 (s1.2.1 - 4)) - 2)).toNat) (v10.toNat : Int))) 0 [.p (.lit (.int .u8 (IntKind.u8.wrap (IntKind.u32.wrap (48 + (IntKind.u32.wrap (Int.tdiv (IntKind.u32.wrap (Int.tdiv (IntKind.u32.wrap s1.1) 10000)) 100)))))))] = List.map (rowA rowU8) (List.set (List.set (List.set (List.set (List.set (List.set (List.set s1.2.2 ((w64 (s1.2.1 - 1)).toNat) (v1.toNat : Int)) ((w64 (s1.2.1 - 2)).toNat) (v2.toNat : Int)) ((w64 (s1.2.1 - 3)).toNat) (v5.toNat : Int)) ((w64 (s1.2.1 - 4)).toNat) (v6.toNat : Int)) ((w64 ((w64 (s1.2.1 - 4)) - 1)).toNat) (v9.toNat : Int)) ((w64 ((w64 (s1.2.1 - 4)) - 2)).toNat) (v10.toNat : Int)) 0 (IntKind.u8.wrap (IntKind.u32.wrap (48 + (IntKind.u32.wrap (Int.tdiv (IntKind.u32.wrap (Int.tdiv (IntKind.u32.wrap s1.1) 10000)) 100)))))) := map_set' (by first | rfl | simp only [go_sem, List.map_cons, List.map_nil])
          simp only [go_sem, c1, List.append_eq, List.cons_append, List.nil_append, e_v1a, e_v1b, e_v2a, e_v2b, e_v3a, e_v3b, e_v3d, e_y1, e_v4a, e_v4b, e_v4d, e_y2, e_v5a, e_v5b, e_v6a, e_v6b, e_v7a, e_v7b, e_v7d, e_y3, e_v8a, e_v8b, e_v8d, e_y4, c2, e_v9a, e_v9b, e_v10a, e_v10b, e_v11a, e_v11b, e_v11d, e_y5, e_v12a, e_v12b, e_v12d, e_y6, c3, e_v13b, e_v13d, e_y7, hp0, fun k => Nat.lt_add_right k hp0, Nat.not_le_of_lt hp0, fun k => Nat.not_le_of_lt (Nat.lt_add_right k hp0)]
          injection h with h; subst h
          exact Sat.ok hQ
        · have h := iteF h c3
          simp only [go_sem, c1, List.append_eq, List.cons_append, List.nil_append, e_v1a, e_v1b, e_v2a, e_v2b, e_v3a, e_v3b, e_v3d, e_y1, e_v4a, e_v4b, e_v4d, e_y2, e_v5a, e_v5b, e_v6a, e_v6b, e_v7a, e_v7b, e_v7d, e_y3, e_v8a, e_v8b, e_v8d, e_y4, c2, e_v9a, e_v9b, e_v10a, e_v10b, e_v11a, e_v11b, e_v11d, e_y5, e_v12a, e_v12b, e_v12d, e_y6, c3, hp0, fun k => Nat.lt_add_right k hp0, Nat.not_le_of_lt hp0, fun k => Nat.not_le_of_lt (Nat.lt_add_right k hp0)]
          injection h with h; subst h
          exact Sat.ok hQ
      · have h := iteF h c2
        by_cases c4 : 0 < (w64 (s1.2.1 - 4))
        · have h := iteT h c4
          obtain ⟨v14, e_v14, h⟩ := ob h
          obtain ⟨e_v14a, e_v14b, e_v14d⟩ := idxM_some e_v14
          simp only [Int.reduceToNat] at e_v14b
          simp only [Int.reduceToNat] at e_v14d
          have e_y8 : List.set (List.map (rowA rowU8) (List.set (List.set (List.set (List.set s1.2.2 ((w64 (s1.2.1 - 1)).toNat) (v1.toNat : Int)) ((w64 (s1.2.1 - 2)).toNat) (v2.toNat : Int)) ((w64 (s1.2.1 - 3)).toNat) (v5.toNat : Int)) ((w64 (s1.2.1 - 4)).toNat) (v6.toNat : Int))) 0 [.p (.lit (.int .u8 (IntKind.u8.wrap (IntKind.u32.wrap (48 + (IntKind.u32.wrap (Int.tdiv (IntKind.u32.wrap s1.1) 10000)))))))] = List.map (rowA rowU8) (List.set (List.set (List.set (List.set (List.set s1.2.2 ((w64 (s1.2.1 - 1)).toNat) (v1.toNat : Int)) ((w64 (s1.2.1 - 2)).toNat) (v2.toNat : Int)) ((w64 (s1.2.1 - 3)).toNat) (v5.toNat : Int)) ((w64 (s1.2.1 - 4)).toNat) (v6.toNat : Int)) 0 (IntKind.u8.wrap (IntKind.u32.wrap (48 + (IntKind.u32.wrap (Int.tdiv (IntKind.u32.wrap s1.1) 10000)))))) := map_set' (by first | rfl | simp only [go_sem, List.map_cons, List.map_nil])
          simp only [go_sem, c1, List.append_eq, List.cons_append, List.nil_append, e_v1a, e_v1b, e_v2a, e_v2b, e_v3a, e_v3b, e_v3d, e_y1, e_v4a, e_v4b, e_v4d, e_y2, e_v5a, e_v5b, e_v6a, e_v6b, e_v7a, e_v7b, e_v7d, e_y3, e_v8a, e_v8b, e_v8d, e_y4, c2, c4, e_v14b, e_v14d, e_y8, hp0, fun k => Nat.lt_add_right k hp0, Nat.not_le_of_lt hp0, fun k => Nat.not_le_of_lt (Nat.lt_add_right k hp0)]
          injection h with h; subst h
          exact Sat.ok hQ
        · have h := iteF h c4
          simp only [go_sem, c1, List.append_eq, List.cons_append, List.nil_append, e_v1a, e_v1b, e_v2a, e_v2b, e_v3a, e_v3b, e_v3d, e_y1, e_v4a, e_v4b, e_v4d, e_y2, e_v5a, e_v5b, e_v6a, e_v6b, e_v7a, e_v7b, e_v7d, e_y3, e_v8a, e_v8b, e_v8d, e_y4, c2, c4, hp0, fun k => Nat.lt_add_right k hp0, Nat.not_le_of_lt hp0, fun k => Nat.not_le_of_lt (Nat.lt_add_right k hp0)]
          injection h with h; subst h
          exact Sat.ok hQ
    · have h := iteF h c1
      by_cases c5 : 2 ≤ s1.2.1
      · have h := iteT h c5
        obtain ⟨v15, e_v15, h⟩ := ob h
        obtain ⟨e_v15a, e_v15b⟩ := idx_some e_v15
        obtain ⟨v16, e_v16, h⟩ := ob h
        obtain ⟨e_v16a, e_v16b⟩ := idx_some e_v16
        obtain ⟨v17, e_v17, h⟩ := ob h
        obtain ⟨e_v17a, e_v17b, e_v17d⟩ := idxM_some e_v17
        have e_y9 : List.set (List.map (rowA rowU8) s1.2.2) ((w64 (s1.2.1 - 1)).toNat) [.p (.lit (.int .u8 (v15.toNat : Int)))] = List.map (rowA rowU8) (List.set s1.2.2 ((w64 (s1.2.1 - 1)).toNat) (v15.toNat : Int)) := map_set' (by first | rfl | simp only [go_sem, List.map_cons, List.map_nil])
        obtain ⟨v18, e_v18, h⟩ := ob h
        obtain ⟨e_v18a, e_v18b, e_v18d⟩ := idxM_some e_v18
        have e_y10 : List.set (List.map (rowA rowU8) (List.set s1.2.2 ((w64 (s1.2.1 - 1)).toNat) (v15.toNat : Int))) ((w64 (s1.2.1 - 2)).toNat) [.p (.lit (.int .u8 (v16.toNat : Int)))] = List.map (rowA rowU8) (List.set (List.set s1.2.2 ((w64 (s1.2.1 - 1)).toNat) (v15.toNat : Int)) ((w64 (s1.2.1 - 2)).toNat) (v16.toNat : Int)) := map_set' (by first | rfl | simp only [go_sem, List.map_cons, List.map_nil])
        by_cases c6 : 0 < (w64 (s1.2.1 - 2))
        · have h := iteT h c6
          obtain ⟨v19, e_v19, h⟩ := ob h
          obtain ⟨e_v19a, e_v19b, e_v19d⟩ := idxM_some e_v19
          simp only [Int.reduceToNat] at e_v19b
          simp only [Int.reduceToNat] at e_v19d
          have e_y11 : List.set (List.map (rowA rowU8) (List.set (List.set s1.2.2 ((w64 (s1.2.1 - 1)).toNat) (v15.toNat : Int)) ((w64 (s1.2.1 - 2)).toNat) (v16.toNat : Int))) 0 [.p (.lit (.int .u8 (IntKind.u8.wrap (IntKind.u32.wrap (48 + (IntKind.u32.wrap (Int.tdiv (IntKind.u32.wrap s1.1) 100)))))))] = List.map (rowA rowU8) (List.set (List.set (List.set s1.2.2 ((w64 (s1.2.1 - 1)).toNat) (v15.toNat : Int)) ((w64 (s1.2.1 - 2)).toNat) (v16.toNat : Int)) 0 (IntKind.u8.wrap (IntKind.u32.wrap (48 + (IntKind.u32.wrap (Int.tdiv (IntKind.u32.wrap s1.1) 100)))))) := map_set' (by first | rfl | simp only [go_sem, List.map_cons, List.map_nil])
          simp only [go_sem, c1, c5, List.append_eq, List.cons_append, List.nil_append, e_v15a, e_v15b, e_v16a, e_v16b, e_v17a, e_v17b, e_v17d, e_y9, e_v18a, e_v18b, e_v18d, e_y10, c6, e_v19b, e_v19d, e_y11, hp0, fun k => Nat.lt_add_right k hp0, Nat.not_le_of_lt hp0, fun k => Nat.not_le_of_lt (Nat.lt_add_right k hp0)]
          injection h with h; subst h
          exact Sat.ok hQ
        · have h := iteF h c6
          simp only [go_sem, c1, c5, List.append_eq, List.cons_append, List.nil_append, e_v15a, e_v15b, e_v16a, e_v16b, e_v17a, e_v17b, e_v17d, e_y9, e_v18a, e_v18b, e_v18d, e_y10, c6, hp0, fun k => Nat.lt_add_right k hp0, Nat.not_le_of_lt hp0, fun k => Nat.not_le_of_lt (Nat.lt_add_right k hp0)]
          injection h with h; subst h
          exact Sat.ok hQ
      · have h := iteF h c5
        by_cases c7 : 0 < s1.2.1
        · have h := iteT h c7
          obtain ⟨v20, e_v20, h⟩ := ob h
          obtain ⟨e_v20a, e_v20b, e_v20d⟩ := idxM_some e_v20
          simp only [Int.reduceToNat] at e_v20b
          simp only [Int.reduceToNat] at e_v20d
          have e_y12 : List.set (List.map (rowA rowU8) s1.2.2) 0 [.p (.lit (.int .u8 (IntKind.u8.wrap (IntKind.u32.wrap (48 + (IntKind.u32.wrap s1.1))))))] = List.map (rowA rowU8) (List.set s1.2.2 0 (IntKind.u8.wrap (IntKind.u32.wrap (48 + (IntKind.u32.wrap s1.1))))) := map_set' (by first | rfl | simp only [go_sem, List.map_cons, List.map_nil])
          simp only [go_sem, c1, c5, c7, e_v20b, e_v20d, e_y12, hp0, fun k => Nat.lt_add_right k hp0, Nat.not_le_of_lt hp0, fun k => Nat.not_le_of_lt (Nat.lt_add_right k hp0)]
          injection h with h; subst h
          exact Sat.ok hQ
        · have h := iteF h c7
          simp only [go_sem, c1, c5, c7, hp0, fun k => Nat.lt_add_right k hp0, Nat.not_le_of_lt hp0, fun k => Nat.not_le_of_lt (Nat.lt_add_right k hp0)]
          injection h with h; subst h
          exact Sat.ok hQ
  · intro K1 k1 s1 n1 hR1 hE1 hb1 ih1 h
    try dsimp only at h ⊢
    conv => arg 1; arg 7; unfold L109_0 loopAt S03.c109 Tryd.f109; simp only [loopIn, Option.getD_some, if_true]
    by_cases c8 : 8 ≤ s1.2.1
    · have h := iteT h c8
      obtain ⟨v21, e_v21, h⟩ := ob h
      obtain ⟨e_v21a, e_v21b⟩ := idx_some e_v21
      obtain ⟨v22, e_v22, h⟩ := ob h
      obtain ⟨e_v22a, e_v22b⟩ := idx_some e_v22
      obtain ⟨v23, e_v23, h⟩ := ob h
      obtain ⟨e_v23a, e_v23b, e_v23d⟩ := idxM_some e_v23
      have e_y13 : List.set (List.map (rowA rowU8) s1.2.2) ((w64 (s1.2.1 - 1)).toNat) [.p (.lit (.int .u8 (v21.toNat : Int)))] = List.map (rowA rowU8) (List.set s1.2.2 ((w64 (s1.2.1 - 1)).toNat) (v21.toNat : Int)) := map_set' (by first | rfl | simp only [go_sem, List.map_cons, List.map_nil])
      obtain ⟨v24, e_v24, h⟩ := ob h
      obtain ⟨e_v24a, e_v24b, e_v24d⟩ := idxM_some e_v24
      have e_y14 : List.set (List.map (rowA rowU8) (List.set s1.2.2 ((w64 (s1.2.1 - 1)).toNat) (v21.toNat : Int))) ((w64 (s1.2.1 - 2)).toNat) [.p (.lit (.int .u8 (v22.toNat : Int)))] = List.map (rowA rowU8) (List.set (List.set s1.2.2 ((w64 (s1.2.1 - 1)).toNat) (v21.toNat : Int)) ((w64 (s1.2.1 - 2)).toNat) (v22.toNat : Int)) := map_set' (by first | rfl | simp only [go_sem, List.map_cons, List.map_nil])
      obtain ⟨v25, e_v25, h⟩ := ob h
      obtain ⟨e_v25a, e_v25b⟩ := idx_some e_v25
      obtain ⟨v26, e_v26, h⟩ := ob h
      obtain ⟨e_v26a, e_v26b⟩ := idx_some e_v26
      obtain ⟨v27, e_v27, h⟩ := ob h
      obtain ⟨e_v27a, e_v27b, e_v27d⟩ := idxM_some e_v27
      have e_y15 : List.set (List.map (rowA rowU8) (List.set (List.set s1.2.2 ((w64 (s1.2.1 - 1)).toNat) (v21.toNat : Int)) ((w64 (s1.2.1 - 2)).toNat) (v22.toNat : Int))) ((w64 (s1.2.1 - 3)).toNat) [.p (.lit (.int .u8 (v25.toNat : Int)))] = List.map (rowA rowU8) (List.set (List.set (List.set s1.2.2 ((w64 (s1.2.1 - 1)).toNat) (v21.toNat : Int)) ((w64 (s1.2.1 - 2)).toNat) (v22.toNat : Int)) ((w64 (s1.2.1 - 3)).toNat) (v25.toNat : Int)) := map_set' (by first | rfl | simp only [go_sem, List.map_cons, List.map_nil])
      obtain ⟨v28, e_v28, h⟩ := ob h
      obtain ⟨e_v28a, e_v28b, e_v28d⟩ := idxM_some e_v28
      have e_y16 : List.set (List.map (rowA rowU8) (List.set (List.set (List.set s1.2.2 ((w64 (s1.2.1 - 1)).toNat) (v21.toNat : Int)) ((w64 (s1.2.1 - 2)).toNat) (v22.toNat : Int)) ((w64 (s1.2.1 - 3)).toNat) (v25.toNat : Int))) ((w64 (s1.2.1 - 4)).toNat) [.p (.lit (.int .u8 (v26.toNat : Int)))] = List.map (rowA rowU8) (List.set (List.set (List.set (List.set s1.2.2 ((w64 (s1.2.1 - 1)).toNat) (v21.toNat : Int)) ((w64 (s1.2.1 - 2)).toNat) (v22.toNat : Int)) ((w64 (s1.2.1 - 3)).toNat) (v25.toNat : Int)) ((w64 (s1.2.1 - 4)).toNat) (v26.toNat : Int)) := map_set' (by first | rfl | simp only [go_sem, List.map_cons, List.map_nil])
      obtain ⟨v29, e_v29, h⟩ := ob h
      obtain ⟨e_v29a, e_v29b⟩ := idx_some e_v29
      obtain ⟨v30, e_v30, h⟩ := ob h
      obtain ⟨e_v30a, e_v30b⟩ := idx_some e_v30
      obtain ⟨v31, e_v31, h⟩ := ob h
      obtain ⟨e_v31a, e_v31b, e_v31d⟩ := idxM_some e_v31
      have e_y17 : List.set (List.map (rowA rowU8) (List.set (List.set (List.set (List.set s1.2.2 ((w64 (s1.2.1 - 1)).toNat) (v21.toNat : Int)) ((w64 (s1.2.1 - 2)).toNat) (v22.toNat : Int)) ((w64 (s1.2.1 - 3)).toNat) (v25.toNat : Int)) ((w64 (s1.2.1 - 4)).toNat) (v26.toNat : Int))) ((w64 (s1.2.1 - 5)).toNat) [.p (.lit (.int .u8 (v29.toNat : Int)))] = List.map (rowA rowU8) (List.set (List.set (List.set (List.set (List.set s1.2.2 ((w64 (s1.2.1 - 1)).toNat) (v21.toNat : Int)) ((w64 (s1.2.1 - 2)).toNat) (v22.toNat : Int)) ((w64 (s1.2.1 - 3)).toNat) (v25.toNat : Int)) ((w64 (s1.2.1 - 4)).toNat) (v26.toNat : Int)) ((w64 (s1.2.1 - 5)).toNat) (v29.toNat : Int)) := map_set' (by first | rfl | simp only [go_sem, List.map_cons, List.map_nil])
      obtain ⟨v32, e_v32, h⟩ := ob h
      obtain ⟨e_v32a, e_v32b, e_v32d⟩ := idxM_some e_v32
      have e_y18 : List.set (List.map (rowA rowU8) (List.set (List.set (List.set (List.set (List.set s1.2.2 ((w64 (s1.2.1 - 1)).toNat) (v21.toNat : Int)) ((w64 (s1.2.1 - 2)).toNat) (v22.toNat : Int)) ((w64 (s1.2.1 - 3)).toNat) (v25.toNat : Int)) ((w64 (s1.2.1 - 4)).toNat) (v26.toNat : Int)) ((w64 (s1.2.1 - 5)).toNat) (v29.toNat : Int))) ((w64 (s1.2.1 - 6)).toNat) [.p (.lit (.int .u8 (v30.toNat : Int)))] = List.map (rowA rowU8) (List.set (List.set (List.set (List.set (List.set (List.set s1.2.2 ((w64 (s1.2.1 - 1)).toNat) (v21.toNat : Int)) ((w64 (s1.2.1 - 2)).toNat) (v22.toNat : Int)) ((w64 (s1.2.1 - 3)).toNat) (v25.toNat : Int)) ((w64 (s1.2.1 - 4)).toNat) (v26.toNat : Int)) ((w64 (s1.2.1 - 5)).toNat) (v29.toNat : Int)) ((w64 (s1.2.1 - 6)).toNat) (v30.toNat : Int)) := map_set' (by first | rfl | simp only [go_sem, List.map_cons, List.map_nil])
      obtain ⟨v33, e_v33, h⟩ := ob h
      obtain ⟨e_v33a, e_v33b⟩ := idx_some e_v33
      obtain ⟨v34, e_v34, h⟩ := ob h
      obtain ⟨e_v34a, e_v34b⟩ := idx_some e_v34
      obtain ⟨v35, e_v35, h⟩ := ob h
      obtain ⟨e_v35a, e_v35b, e_v35d⟩ := idxM_some e_v35
      have e_y19 : List.set (List.map (rowA rowU8) (List.set (List.set (List.set (List.set (List.set (List.set s1.2.2 ((w64 (s1.2.1 - 1)).toNat) (v21.toNat : Int)) ((w64 (s1.2.1 - 2)).toNat) (v22.toNat : Int)) ((w64 (s1.2.1 - 3)).toNat) (v25.toNat : Int)) ((w64 (s1.2.1 - 4)).toNat) (v26.toNat : Int)) ((w64 (s1.2.1 - 5)).toNat) (v29.toNat : Int)) ((w64 (s1.2.1 - 6)).toNat) (v30.toNat : Int))) ((w64 (s1.2.1 - 7)).toNat) [.p (.lit (.int .u8 (v33.toNat : Int)))] = List.map (rowA rowU8) (List.set (List.set (List.set (List.set (List.set (List.set (List.set s1.2.2 ((w64 (s1.2.1 - 1)).toNat) (v21.toNat : Int)) ((w64 (s1.2.1 - 2)).toNat) (v22.toNat : Int)) ((w64 (s1.2.1 - 3)).toNat) (v25.toNat : Int)) ((w64 (s1.2.1 - 4)).toNat) (v26.toNat : Int)) ((w64 (s1.2.1 - 5)).toNat) (v29.toNat : Int)) ((w64 (s1.2.1 - 6)).toNat) (v30.toNat : Int)) ((w64 (s1.2.1 - 7)).toNat) (v33.toNat : Int)) := map_set' (by first | rfl | simp only [go_sem, List.map_cons, List.map_nil])
      obtain ⟨v36, e_v36, h⟩ := ob h
      obtain ⟨e_v36a, e_v36b, e_v36d⟩ := idxM_some e_v36
      have e_y20 : List.set (List.map (rowA rowU8) (List.set (List.set (List.set (List.set (List.set (List.set (List.set s1.2.2 ((w64 (s1.2.1 - 1)).toNat) (v21.toNat : Int)) ((w64 (s1.2.1 - 2)).toNat) (v22.toNat : Int)) ((w64 (s1.2.1 - 3)).toNat) (v25.toNat : Int)) ((w64 (s1.2.1 - 4)).toNat) (v26.toNat : Int)) ((w64 (s1.2.1 - 5)).toNat) (v29.toNat : Int)) ((w64 (s1.2.1 - 6)).toNat) (v30.toNat : Int)) ((w64 (s1.2.1 - 7)).toNat) (v33.toNat : Int))) ((w64 (s1.2.1 - 8)).toNat) [.p (.lit (.int .u8 (v34.toNat : Int)))] = List.map (rowA rowU8) (List.set (List.set (List.set (List.set (List.set (List.set (List.set (List.set s1.2.2 ((w64 (s1.2.1 - 1)).toNat) (v21.toNat : Int)) ((w64 (s1.2.1 - 2)).toNat) (v22.toNat : Int)) ((w64 (s1.2.1 - 3)).toNat) (v25.toNat : Int)) ((w64 (s1.2.1 - 4)).toNat) (v26.toNat : Int)) ((w64 (s1.2.1 - 5)).toNat) (v29.toNat : Int)) ((w64 (s1.2.1 - 6)).toNat) (v30.toNat : Int)) ((w64 (s1.2.1 - 7)).toNat) (v33.toNat : Int)) ((w64 (s1.2.1 - 8)).toNat) (v34.toNat : Int)) := map_set' (by first | rfl | simp only [go_sem, List.map_cons, List.map_nil])
      simp only [go_sem, c8, List.append_eq, List.cons_append, List.nil_append, e_v21a, e_v21b, e_v22a, e_v22b, e_v23a, e_v23b, e_v23d, e_y13, e_v24a, e_v24b, e_v24d, e_y14, e_v25a, e_v25b, e_v26a, e_v26b, e_v27a, e_v27b, e_v27d, e_y15, e_v28a, e_v28b, e_v28d, e_y16, e_v29a, e_v29b, e_v30a, e_v30b, e_v31a, e_v31b, e_v31d, e_y17, e_v32a, e_v32b, e_v32d, e_y18, e_v33a, e_v33b, e_v34a, e_v34b, e_v35a, e_v35b, e_v35d, e_y19, e_v36a, e_v36b, e_v36d, e_y20, hR1, hE1, hp0, fun k => Nat.lt_add_right k hp0, Nat.not_le_of_lt hp0, fun k => Nat.not_le_of_lt (Nat.lt_add_right k hp0)]
      exact ih1 (IntKind.u64.wrap (Int.tdiv s1.1 100000000), w64 (s1.2.1 - 8), (List.set (List.set (List.set (List.set (List.set (List.set (List.set (List.set s1.2.2 ((w64 (s1.2.1 - 1)).toNat) (v21.toNat : Int)) ((w64 (s1.2.1 - 2)).toNat) (v22.toNat : Int)) ((w64 (s1.2.1 - 3)).toNat) (v25.toNat : Int)) ((w64 (s1.2.1 - 4)).toNat) (v26.toNat : Int)) ((w64 (s1.2.1 - 5)).toNat) (v29.toNat : Int)) ((w64 (s1.2.1 - 6)).toNat) (v30.toNat : Int)) ((w64 (s1.2.1 - 7)).toNat) (v33.toNat : Int)) ((w64 (s1.2.1 - 8)).toNat) (v34.toNat : Int))) h
    · have h := iteF h c8
      simp only [go_sem, c8, hR1, hE1, hp0, fun k => Nat.lt_add_right k hp0, Nat.not_le_of_lt hp0, fun k => Nat.not_le_of_lt (Nat.lt_add_right k hp0)]
      exact hb1 (s1.1, s1.2.1, s1.2.2) h

def internal_strconv_AppendUint (n : Nat) (a0 : List Int) (a1 : Int) (a2 : Int) : Option (List Int) :=
  if a2 = 10 then
    if a1 < 100 then
      (internal_strconv_small (IntKind.i64.wrap a1)).bind fun v1 =>
      (app 1 a0 (ofStr v1)).bind fun v2 =>
      some v2
    else
      (zrow 24 0).bind fun v3 =>
      (internal_strconv_numDigits a1).bind fun v4 =>
      (cutE 24 v3 v4).bind fun v5 =>
      (internal_strconv_formatBase10_mx n v3 v5 a1).bind fun v6 =>
      (cutE 24 v6 v4).bind fun v7 =>
      (allM 0 v5 v6).bind fun v8 =>
      (app 1 a0 v8).bind fun v9 =>
      some v9
  else
    none
theorem spec101 (n : Nat) (a0 : List Int) (a1 : Int) (a2 : Int) (r : List Int) (h : internal_strconv_AppendUint n a0 a1 a2 = some r) :
    call Tryd.prog T H (.fn 101) [.own 1 (List.map rowU8 a0), .p (.lit (.int .u64 a1)), .p (iv a2)] [] = some (.ret (.own 1 (List.map rowU8 r)), []) := by
  refine Sat.fn fun Q hQ => ?_
  unfold internal_strconv_AppendUint at h
  rw [call101]
  conv => arg 1; arg 7; unfold S03.c101 Tryd.f101; simp only [Option.getD_some]
  by_cases c1 : a2 = 10
  · have h := iteT h c1
    have c1b : (a2 == 10) = true := beqT c1
    by_cases c2 : a1 < 100
    · have h := iteT h c2
      obtain ⟨v1, e_v1, h⟩ := ob h
      have e_v1c : call Tryd.prog T H (.fn 107) [.p (iv (IntKind.i64.wrap a1))] [] = some (.ret (.p (.lit (.string (bs v1)))), []) := spec107 (IntKind.i64.wrap a1) v1 e_v1
      obtain ⟨v2, e_v2, h⟩ := ob h
      have e_v2a : boundOk (a0.length + (ofStr v1).length) 1 = true := bnd_of (by have := (app_some e_v2).1; simpa using this) (by decide)
      have e_v2b : (List.map rowU8 a0) ++ (List.map rowU8 (ofStr v1)) = List.map rowU8 v2 := by rw [(app_some e_v2).2]; simp [rowU8]
      have e_v2b : List.map rowU8 (a0 ++ (ofStr v1)) = List.map rowU8 v2 := by rw [(app_some e_v2).2]
      simp only [go_sem, c1b, c2, e_v1c, e_v2a, e_v2b]
      injection h with h; subst h
      exact Sat.ok hQ
    · have h := iteF h c2
      obtain ⟨v3, e_v3, h⟩ := ob h
      have e_v3z : chunk 1 24 [.lit (.int .u8 0), .lit (.int .u8 0), .lit (.int .u8 0), .lit (.int .u8 0), .lit (.int .u8 0), .lit (.int .u8 0), .lit (.int .u8 0), .lit (.int .u8 0), .lit (.int .u8 0), .lit (.int .u8 0), .lit (.int .u8 0), .lit (.int .u8 0), .lit (.int .u8 0), .lit (.int .u8 0), .lit (.int .u8 0), .lit (.int .u8 0), .lit (.int .u8 0), .lit (.int .u8 0), .lit (.int .u8 0), .lit (.int .u8 0), .lit (.int .u8 0), .lit (.int .u8 0), .lit (.int .u8 0), .lit (.int .u8 0)] = List.map (rowA rowU8) v3 := by unfold zrow at e_v3; injection e_v3 with q; rw [← q]; rfl
      have e_v3l : v3.length = 24 := by unfold zrow at e_v3; injection e_v3 with q; rw [← q]; rfl
      obtain ⟨v4, e_v4, h⟩ := ob h
      have e_v4c : call Tryd.prog T H (.fn 108) [.p (.lit (.int .u64 a1))] [] = some (.ret (.p (iv v4)), []) := spec108 a1 v4 e_v4
      obtain ⟨v5, e_v5, h⟩ := ob h
      obtain ⟨e_v5l, e_v5a, e_v5b, e_v5d⟩ := cutE_some e_v5
      obtain ⟨v6, e_v6, h⟩ := ob h
      have e_v6c : call Tryd.prog T H (.fn 109) [.ms 0 0 1 0 v5, .p (.lit (.int .u64 a1))] [.arr 0 1 (List.map (rowA rowU8) v3)] = some (.ret (.p (.tup [])), [.arr 0 1 (List.map (rowA rowU8) v6)]) := by have q := spec109_mx n [.arr 0 1 (List.map (rowA rowU8) v3)] 0 0 (by simp only [List.length_append, List.length_set, List.length_cons, List.length_nil]; omega) v3 v5 a1 v6 e_v6; first | (simp only [go_sem] at q ⊢; exact q) | exact q
      obtain ⟨v7, e_v7, h⟩ := ob h
      obtain ⟨e_v7l, e_v7a, e_v7b, e_v7d⟩ := cutE_some e_v7
      obtain ⟨v8, e_v8, h⟩ := ob h
      have e_v8a := (allM_some e_v8).1
      have e_v8b := (allM_some e_v8).2
      try simp only [Nat.zero_add] at e_v8a
      try simp only [List.drop_zero] at e_v8b
      obtain ⟨v9, e_v9, h⟩ := ob h
      have e_v9a : boundOk (a0.length + v8.length) 1 = true := bnd_of (by have := (app_some e_v9).1; simpa using this) (by decide)
      have e_v9b : (List.map rowU8 a0) ++ (List.map rowU8 v8) = List.map rowU8 v9 := by rw [(app_some e_v9).2]; simp [rowU8]
      have e_v9b : List.map rowU8 (a0 ++ v8) = List.map rowU8 v9 := by rw [(app_some e_v9).2]
      simp only [go_sem, c1b, c2, e_v3z, e_v3l, List.length_set, e_v4c, e_v5l, e_v5a, e_v5b, e_v5d, e_v6c, e_v7l, e_v7a, e_v7b, e_v8a, e_v8b, e_v9a, e_v9b]
      injection h with h; subst h
      exact Sat.ok hQ
  · have h := iteF h c1
    have c1b : (a2 == 10) = false := beqF c1
    cases h

def internal_strconv_AppendInt (n : Nat) (a0 : List Int) (a1 : Int) (a2 : Int) : Option (List Int) :=
  if a1 < 0 then
    (app 1 a0 [45]).bind fun v1 =>
    (internal_strconv_AppendUint n v1 (IntKind.u64.wrap (0 - (IntKind.u64.wrap a1))) a2).bind fun v2 =>
    some v2
  else
    (internal_strconv_AppendUint n a0 (IntKind.u64.wrap a1) a2).bind fun v3 =>
    some v3
theorem spec93 (n : Nat) (a0 : List Int) (a1 : Int) (a2 : Int) (r : List Int) (h : internal_strconv_AppendInt n a0 a1 a2 = some r) :
    call Tryd.prog T H (.fn 93) [.own 1 (List.map rowU8 a0), .p (iv a1), .p (iv a2)] [] = some (.ret (.own 1 (List.map rowU8 r)), []) := by
  refine Sat.fn fun Q hQ => ?_
  unfold internal_strconv_AppendInt at h
  rw [call93]
  conv => arg 1; arg 7; unfold S03.c93 Tryd.f93; simp only [Option.getD_some]
  by_cases c1 : a1 < 0
  · have h := iteT h c1
    obtain ⟨v1, e_v1, h⟩ := ob h
    have e_v1a : boundOk (a0.length + 1) 1 = true := bnd_of (by have := (app_some e_v1).1; simpa using this) (by decide)
    have e_v1b : (List.map rowU8 a0) ++ [[.lit (.int .u8 45)]] = List.map rowU8 v1 := by rw [(app_some e_v1).2]; simp [rowU8]
    obtain ⟨v2, e_v2, h⟩ := ob h
    have e_v2c : call Tryd.prog T H (.fn 101) [.own 1 (List.map rowU8 v1), .p (.lit (.int .u64 (IntKind.u64.wrap (0 - (IntKind.u64.wrap a1))))), .p (iv a2)] [] = some (.ret (.own 1 (List.map rowU8 v2)), []) := spec101 n v1 (IntKind.u64.wrap (0 - (IntKind.u64.wrap a1))) a2 v2 e_v2
    simp only [go_sem, c1, e_v1a, e_v1b, e_v2c]
    injection h with h; subst h
    exact Sat.ok hQ
  · have h := iteF h c1
    obtain ⟨v3, e_v3, h⟩ := ob h
    have e_v3c : call Tryd.prog T H (.fn 101) [.own 1 (List.map rowU8 a0), .p (.lit (.int .u64 (IntKind.u64.wrap a1))), .p (iv a2)] [] = some (.ret (.own 1 (List.map rowU8 v3)), []) := spec101 n a0 (IntKind.u64.wrap a1) a2 v3 e_v3
    simp only [go_sem, c1, e_v3c]
    injection h with h; subst h
    exact Sat.ok hQ

def strconv_AppendInt (n : Nat) (a0 : List Int) (a1 : Int) (a2 : Int) : Option (List Int) :=
  (internal_strconv_AppendInt n a0 a1 a2).bind fun v1 =>
  some v1
theorem spec83 (n : Nat) (a0 : List Int) (a1 : Int) (a2 : Int) (r : List Int) (h : strconv_AppendInt n a0 a1 a2 = some r) :
    call Tryd.prog T H (.fn 83) [.own 1 (List.map rowU8 a0), .p (iv a1), .p (iv a2)] [] = some (.ret (.own 1 (List.map rowU8 r)), []) := by
  refine Sat.fn fun Q hQ => ?_
  unfold strconv_AppendInt at h
  rw [call83]
  conv => arg 1; arg 7; unfold S03.c83 Tryd.f83; simp only [Option.getD_some]
  obtain ⟨v1, e_v1, h⟩ := ob h
  have e_v1c : call Tryd.prog T H (.fn 93) [.own 1 (List.map rowU8 a0), .p (iv a1), .p (iv a2)] [] = some (.ret (.own 1 (List.map rowU8 v1)), []) := spec93 n a0 a1 a2 v1 e_v1
  simp only [go_sem, e_v1c]
  injection h with h; subst h
  exact Sat.ok hQ

def auto_key (n : Nat) (a0 : Int) (a1 : List Int) : Option Str :=
  (strconv_AppendInt n ([] : List Int) a0 10).bind fun v1 =>
  rangeL a1 v1 (fun k1 i1 x1 (s1 : (List Int)) n1 =>
    (app 1 s1 [44]).bind fun v2 =>
    (strconv_AppendInt n v2 x1 10).bind fun v3 =>
    n1 v3) fun s1 =>
  some (strB s1)
theorem spec62 (n : Nat) (a0 : Int) (a1 : List Int) (r : Str) (h : auto_key n a0 a1 = some r) :
    call Tryd.prog T H (.fn 62) [.p (iv a0), .p (.sl none 1 (List.map rowI a1))] [] = some (.ret (.p (.lit (.string (bs r)))), []) := by
  refine Sat.fn fun Q hQ => ?_
  unfold auto_key at h
  rw [call62]
  conv => arg 1; arg 7; unfold S03.c62 Tryd.f62; simp only [Option.getD_some]
  obtain ⟨v1, e_v1, h⟩ := ob h
  have e_v1c : call Tryd.prog T H (.fn 83) [.own 1 [], .p (iv a0), .p (iv 10)] [] = some (.ret (.own 1 (List.map rowU8 v1)), []) := spec83 n ([] : List Int) a0 10 v1 e_v1
  simp only [go_sem, e_v1c]
  refine run_rangeL (c := L62_0) (live := [5, 10, 11, 12]) (by simp only [go_sem]) (M := fun i1 (s1 : (List Int)) => [(5, .own 1 (List.map rowU8 s1)), (10, .p (.sl none 1 (List.map rowI a1))), (11, .p (iv (a1.length : Int))), (12, .p (iv (i1 : Int)))]) (Z := fun i1 (s1 : (List Int)) => []) (N := fun (s1 : (List Int)) => ⟨[(5, .own 1 (List.map rowU8 s1))], [], [], none, false⟩) h rfl rfl (fun _ _ => rfl) ?_ ?_ ?_
  · intro s1 h
    try dsimp only at h ⊢
    simp only [go_sem, bytesR_map, strOf_bs]
    injection h with h; subst h
    exact Sat.ok hQ
  · intro K1 s1 hb1 he1
    try dsimp only
    conv => arg 1; arg 7; unfold L62_0 loopAt S03.c62 Tryd.f62; simp only [loopIn, Option.getD_some, if_true]
    simp only [go_sem, he1]
    exact hb1
  · intro K1 k1 i1 x1 s1 n1 hR1 hE1 hb1 hx1 hi1 hw1 ih1 h
    try dsimp only at h ⊢
    conv => arg 1; arg 7; unfold L62_0 loopAt S03.c62 Tryd.f62; simp only [loopIn, Option.getD_some, if_true]
    obtain ⟨v2, e_v2, h⟩ := ob h
    have e_v2a : boundOk (s1.length + 1) 1 = true := bnd_of (by have := (app_some e_v2).1; simpa using this) (by decide)
    have e_v2b : (List.map rowU8 s1) ++ [[.lit (.int .u8 44)]] = List.map rowU8 v2 := by rw [(app_some e_v2).2]; simp [rowU8]
    obtain ⟨v3, e_v3, h⟩ := ob h
    have e_v3c : call Tryd.prog T H (.fn 83) [.own 1 (List.map rowU8 v2), .p (iv x1), .p (iv 10)] [] = some (.ret (.own 1 (List.map rowU8 v3)), []) := spec83 n v2 x1 10 v3 e_v3
    simp only [go_sem, hx1, hi1, hw1, e_v2a, e_v2b, e_v3c, hR1, hE1]
    exact ih1 v3 h

def ref01_Size : Nat → Tree → Option Int
  | 0, _ => none
  | n + 1, a0 =>
    rangeL a0.Kids 1 (fun k1 i1 x1 (s1 : Int) n1 =>
      (ref01_Size n x1).bind fun v1 =>
      n1 (w64 (s1 + v1))) fun s1 =>
    some s1
theorem spec26 : ∀ (n : Nat), (∀ (a0 : Tree) (r : Int), ref01_Size n a0 = some r →
    call Tryd.prog T H (.fn 26) [.p (.agg [iv a0.Sym, .sl none 2 (List.map row_Tree a0.Kids)])] [] = some (.ret (.p (iv r)), [])) := by
  intro n
  induction n with
  | zero => intro a0 r h; cases h
  | succ n ih =>
    intro a0 r h
    refine Sat.fn fun Q hQ => ?_
    rw [ref01_Size] at h
    rw [call26]
    conv => arg 1; arg 7; unfold S03.c26 Tryd.f26; simp only [Option.getD_some]
    simp only [go_sem]
    refine run_rangeL (c := L26_0) (live := [3, 7, 8, 9]) (by simp only [go_sem]) (M := fun i1 (s1 : Int) => [(3, .p (iv s1)), (7, .p (.sl none 2 (List.map row_Tree a0.Kids))), (8, .p (iv (a0.Kids.length : Int))), (9, .p (iv (i1 : Int)))]) (Z := fun i1 (s1 : Int) => [.cells [.p (iv a0.Sym), .p (.sl none 2 (List.map row_Tree a0.Kids))]]) (N := fun (s1 : Int) => ⟨[(3, .p (iv s1))], [.cells [.p (iv a0.Sym), .p (.sl none 2 (List.map row_Tree a0.Kids))]], [], none, false⟩) h rfl rfl (fun _ _ => rfl) ?_ ?_ ?_
    · intro s1 h
      try dsimp only at h ⊢
      simp only [go_sem]
      injection h with h; subst h
      exact Sat.ok hQ
    · intro K1 s1 hb1 he1
      try dsimp only
      conv => arg 1; arg 7; unfold L26_0 loopAt S03.c26 Tryd.f26; simp only [loopIn, Option.getD_some, if_true]
      simp only [go_sem, he1]
      exact hb1
    · intro K1 k1 i1 x1 s1 n1 hR1 hE1 hb1 hx1 hi1 hw1 ih1 h
      try dsimp only at h ⊢
      conv => arg 1; arg 7; unfold L26_0 loopAt S03.c26 Tryd.f26; simp only [loopIn, Option.getD_some, if_true]
      obtain ⟨v1, e_v1, h⟩ := ob h
      have e_v1c : call Tryd.prog T H (.fn 26) [.p (.agg [iv x1.Sym, .sl none 2 (List.map row_Tree x1.Kids)])] [] = some (.ret (.p (iv v1)), []) := ih x1 v1 e_v1
      simp only [go_sem, hx1, hi1, hw1, e_v1c, hR1, hE1]
      exact ih1 (w64 (s1 + v1)) h

def tree_Size : Nat → Tree → Option Int
  | 0, _ => none
  | n + 1, a0 =>
    rangeL a0.Kids 1 (fun k1 i1 x1 (s1 : Int) n1 =>
      (tree_Size n x1).bind fun v1 =>
      n1 (w64 (s1 + v1))) fun s1 =>
    some s1
theorem spec66 : ∀ (n : Nat), (∀ (a0 : Tree) (r : Int), tree_Size n a0 = some r →
    call Tryd.prog T H (.fn 66) [.p (.agg [iv a0.Sym, .sl none 2 (List.map row_Tree a0.Kids)])] [] = some (.ret (.p (iv r)), [])) := by
  intro n
  induction n with
  | zero => intro a0 r h; cases h
  | succ n ih =>
    intro a0 r h
    refine Sat.fn fun Q hQ => ?_
    rw [tree_Size] at h
    rw [call66]
    conv => arg 1; arg 7; unfold S03.c66 Tryd.f66; simp only [Option.getD_some]
    simp only [go_sem]
    refine run_rangeL (c := L66_0) (live := [3, 7, 8, 9]) (by simp only [go_sem]) (M := fun i1 (s1 : Int) => [(3, .p (iv s1)), (7, .p (.sl none 2 (List.map row_Tree a0.Kids))), (8, .p (iv (a0.Kids.length : Int))), (9, .p (iv (i1 : Int)))]) (Z := fun i1 (s1 : Int) => [.cells [.p (iv a0.Sym), .p (.sl none 2 (List.map row_Tree a0.Kids))]]) (N := fun (s1 : Int) => ⟨[(3, .p (iv s1))], [.cells [.p (iv a0.Sym), .p (.sl none 2 (List.map row_Tree a0.Kids))]], [], none, false⟩) h rfl rfl (fun _ _ => rfl) ?_ ?_ ?_
    · intro s1 h
      try dsimp only at h ⊢
      simp only [go_sem]
      injection h with h; subst h
      exact Sat.ok hQ
    · intro K1 s1 hb1 he1
      try dsimp only
      conv => arg 1; arg 7; unfold L66_0 loopAt S03.c66 Tryd.f66; simp only [loopIn, Option.getD_some, if_true]
      simp only [go_sem, he1]
      exact hb1
    · intro K1 k1 i1 x1 s1 n1 hR1 hE1 hb1 hx1 hi1 hw1 ih1 h
      try dsimp only at h ⊢
      conv => arg 1; arg 7; unfold L66_0 loopAt S03.c66 Tryd.f66; simp only [loopIn, Option.getD_some, if_true]
      obtain ⟨v1, e_v1, h⟩ := ob h
      have e_v1c : call Tryd.prog T H (.fn 66) [.p (.agg [iv x1.Sym, .sl none 2 (List.map row_Tree x1.Kids)])] [] = some (.ret (.p (iv v1)), []) := ih x1 v1 e_v1
      simp only [go_sem, hx1, hi1, hw1, e_v1c, hR1, hE1]
      exact ih1 (w64 (s1 + v1)) h

def slices_Index_Lint_int (a0 : List Int) (a1 : Int) : Option Int :=
  rangeL a0 () (fun k1 i1 x1 (s1 : Unit) n1 =>
    if a1 = x1 then
      some (i1 : Int)
    else
      n1 ()) fun s1 =>
  some (-1)
theorem spec85 (a0 : List Int) (a1 : Int) (r : Int) (h : slices_Index_Lint_int a0 a1 = some r) :
    call Tryd.prog T H (.fn 85) [.p (.sl none 1 (List.map rowI a0)), .p (iv a1)] [] = some (.ret (.p (iv r)), []) := by
  refine Sat.fn fun Q hQ => ?_
  unfold slices_Index_Lint_int at h
  rw [call85]
  conv => arg 1; arg 7; unfold S03.c85 Tryd.f85; simp only [Option.getD_some]
  simp only [go_sem]
  refine run_rangeL (c := L85_0) (live := [0, 1, 7, 8]) (by simp only [go_sem]) (M := fun i1 (s1 : Unit) => [(0, .p (.sl none 1 (List.map rowI a0))), (1, .p (iv a1)), (7, .p (iv (a0.length : Int))), (8, .p (iv (i1 : Int)))]) (Z := fun i1 (s1 : Unit) => []) (N := fun (s1 : Unit) => ⟨[], [], [], none, false⟩) h rfl rfl (fun _ _ => rfl) ?_ ?_ ?_
  · intro s1 h
    try dsimp only at h ⊢
    simp only [go_sem]
    injection h with h; subst h
    exact Sat.ok hQ
  · intro K1 s1 hb1 he1
    try dsimp only
    conv => arg 1; arg 7; unfold L85_0 loopAt S03.c85 Tryd.f85; simp only [loopIn, Option.getD_some, if_true]
    simp only [go_sem, he1]
    exact hb1
  · intro K1 k1 i1 x1 s1 n1 hR1 hE1 hb1 hx1 hi1 hw1 ih1 h
    try dsimp only at h ⊢
    conv => arg 1; arg 7; unfold L85_0 loopAt S03.c85 Tryd.f85; simp only [loopIn, Option.getD_some, if_true]
    by_cases c1 : a1 = x1
    · have h := iteT h c1
      have c1b : (a1 == x1) = true := beqT c1
      simp only [go_sem, hx1, hi1, hw1, c1b, hR1, hE1]
      injection h with h; subst h
      exact Sat.ok hQ
    · have h := iteF h c1
      have c1b : (a1 == x1) = false := beqF c1
      simp only [go_sem, hx1, hi1, hw1, c1b, hR1, hE1]
      exact ih1 () h

def slices_Contains_Lint_int (a0 : List Int) (a1 : Int) : Option Bool :=
  (slices_Index_Lint_int a0 a1).bind fun v1 =>
  some (decide (0 ≤ v1))
theorem spec67 (a0 : List Int) (a1 : Int) (r : Bool) (h : slices_Contains_Lint_int a0 a1 = some r) :
    call Tryd.prog T H (.fn 67) [.p (.sl none 1 (List.map rowI a0)), .p (iv a1)] [] = some (.ret (.p (bv r)), []) := by
  refine Sat.fn fun Q hQ => ?_
  unfold slices_Contains_Lint_int at h
  rw [call67]
  conv => arg 1; arg 7; unfold S03.c67 Tryd.f67; simp only [Option.getD_some]
  obtain ⟨v1, e_v1, h⟩ := ob h
  have e_v1c : call Tryd.prog T H (.fn 85) [.p (.sl none 1 (List.map rowI a0)), .p (iv a1)] [] = some (.ret (.p (iv v1)), []) := spec85 a0 a1 v1 e_v1
  simp only [go_sem, e_v1c]
  injection h with h; subst h
  exact Sat.ok hQ

def auto_checked_xxrd : Nat → Tree → (List Int) → Int → (List (Str × Bool)) → Option (Bool × Int)
  | 0, _, _, _, _ => none
  | n + 1, a0, a1, a2, a3 =>
    (idx a1 a2).bind fun v1 =>
    rangeL a0.Kids (([] : List Int), w64 (a2 + 1)) (fun k1 i1 x1 (s1 : (List Int) × Int) n1 =>
      (idx a1 s1.2).bind fun v4 =>
      (app 8 s1.1 [v4]).bind fun v5 =>
      (auto_checked_xxrd n x1 a1 s1.2 a3).bind fun v6 =>
      if v6.1 = true then
        n1 (v5, v6.2)
      else
        some (false, v6.2)) fun s1 =>
    (app 8 s1.1 [v1]).bind fun v2 =>
    (auto_key n a0.Sym v2).bind fun v3 =>
    some (((mget v3 a3).getD false), s1.2)
theorem spec69_xxrd : ∀ (n : Nat), (∀ (σ : List AObj) (p2 : Nat) (hp2 : p2 < σ.length) (p3 : Nat) (hp3 : p3 < σ.length) (hne2_3 : p2 ≠ p3) (hne3_2 : p3 ≠ p2) (a0 : Tree) (a1 : List Int) (a2 : Int) (a3 : List (Str × Bool)) (r : Bool × Int), auto_checked_xxrd n a0 a1 a2 a3 = some r →
    call Tryd.prog T H (.fn 69) [.p (.agg [iv a0.Sym, .sl none 2 (List.map row_Tree a0.Kids)]), .p (.sl none 1 (List.map rowI a1)), .ptr p2 0, .mp p3] (List.set (List.set σ p2 (.cells [.p (iv a2)])) p3 (.map none (List.map (kvE kS pvB) a3))) = some (.ret (.p (bv r.1)), (List.set (List.set σ p2 (.cells [.p (iv r.2)])) p3 (.map none (List.map (kvE kS pvB) a3))))) := by
  intro n
  induction n with
  | zero => intro σ p2 hp2 p3 hp3 hne2_3 hne3_2 a0 a1 a2 a3 r h; cases h
  | succ n ih =>
    intro σ p2 hp2 p3 hp3 hne2_3 hne3_2 a0 a1 a2 a3 r h
    refine Sat.fn fun Q hQ => ?_
    rw [auto_checked_xxrd] at h
    rw [call69]
    conv => arg 1; arg 7; unfold S03.c69 Tryd.f69; simp only [Option.getD_some]
    obtain ⟨v1, e_v1, h⟩ := ob h
    obtain ⟨e_v1a, e_v1b⟩ := idx_some e_v1
    simp only [go_sem, e_v1a, e_v1b, hp2, fun k => Nat.lt_add_right k hp2, hp3, fun k => Nat.lt_add_right k hp3, hne2_3, hne3_2, Nat.not_le_of_lt hp2, fun k => Nat.not_le_of_lt (Nat.lt_add_right k hp2), Nat.not_le_of_lt hp3, fun k => Nat.not_le_of_lt (Nat.lt_add_right k hp3)]
    refine run_rangeL (c := L69_0) (live := [1, 2, 3, 4, 9, 10, 25, 26, 27]) (by simp only [go_sem]) (M := fun i1 (s1 : (List Int) × Int) => [(1, .p (.sl none 1 (List.map rowI a1))), (2, .ptr p2 0), (3, .mp p3), (4, .ptr σ.length 0), (9, .p (iv v1)), (10, .own 1 (List.map rowI s1.1)), (25, .p (.sl none 2 (List.map row_Tree a0.Kids))), (26, .p (iv (a0.Kids.length : Int))), (27, .p (iv (i1 : Int)))]) (Z := fun i1 (s1 : (List Int) × Int) => ((List.set (List.set σ p2 (.cells [.p (iv s1.2)])) p3 (.map none (List.map (kvE kS pvB) a3))) ++ [.cells [.p (iv a0.Sym), .p (.sl none 2 (List.map row_Tree a0.Kids))]])) (N := fun (s1 : (List Int) × Int) => ⟨[(3, .mp p3), (4, .ptr σ.length 0), (9, .p (iv v1)), (10, .own 1 (List.map rowI s1.1))], ((List.set (List.set σ p2 (.cells [.p (iv s1.2)])) p3 (.map none (List.map (kvE kS pvB) a3))) ++ [.cells [.p (iv a0.Sym), .p (.sl none 2 (List.map row_Tree a0.Kids))]]), [], none, false⟩) h rfl rfl (fun _ _ => rfl) ?_ ?_ ?_
    · intro s1 h
      try dsimp only at h ⊢
      obtain ⟨v2, e_v2, h⟩ := ob h
      have e_v2a : boundOk (s1.1.length + 1) 8 = true := bnd_of (by have := (app_some e_v2).1; simpa using this) (by decide)
      have e_v2b : (List.map rowI s1.1) ++ [[iv v1]] = List.map rowI v2 := by rw [(app_some e_v2).2]; simp [rowI]
      obtain ⟨v3, e_v3, h⟩ := ob h
      have e_v3c : call Tryd.prog T H (.fn 62) [.p (iv a0.Sym), .p (.sl none 1 (List.map rowI v2))] [] = some (.ret (.p (.lit (.string (bs v3)))), []) := spec62 n a0.Sym v2 v3 e_v3
      have e_m1f : findKV (.string (bs v3)) (List.map (kvE kS pvB) a3) = Option.map pvB (mget v3 a3) := find_S pvB _ a3
      have e_m1r : mapRes false (bv false) (Option.map pvB (mget v3 a3)) = .p (bv ((mget v3 a3).getD false)) := by first | exact res_f pvB false _ | (simp only [pvB]; cases (mget v3 a3) <;> rfl) | (cases (mget v3 a3) <;> simp [mapRes, pvB])
      simp only [go_sem, e_v2a, e_v2b, e_v3c, e_m1f, e_m1r, hp2, fun k => Nat.lt_add_right k hp2, hp3, fun k => Nat.lt_add_right k hp3, hne2_3, hne3_2, Nat.not_le_of_lt hp2, fun k => Nat.not_le_of_lt (Nat.lt_add_right k hp2), Nat.not_le_of_lt hp3, fun k => Nat.not_le_of_lt (Nat.lt_add_right k hp3)]
      injection h with h; subst h
      exact Sat.ok hQ
    · intro K1 s1 hb1 he1
      try dsimp only
      conv => arg 1; arg 7; unfold L69_0 loopAt S03.c69 Tryd.f69; simp only [loopIn, Option.getD_some, if_true]
      simp only [go_sem, he1, hp2, fun k => Nat.lt_add_right k hp2, hp3, fun k => Nat.lt_add_right k hp3, hne2_3, hne3_2, Nat.not_le_of_lt hp2, fun k => Nat.not_le_of_lt (Nat.lt_add_right k hp2), Nat.not_le_of_lt hp3, fun k => Nat.not_le_of_lt (Nat.lt_add_right k hp3)]
      exact hb1
    · intro K1 k1 i1 x1 s1 n1 hR1 hE1 hb1 hx1 hi1 hw1 ih1 h
      try dsimp only at h ⊢
      conv => arg 1; arg 7; unfold L69_0 loopAt S03.c69 Tryd.f69; simp only [loopIn, Option.getD_some, if_true]
      obtain ⟨v4, e_v4, h⟩ := ob h
      obtain ⟨e_v4a, e_v4b⟩ := idx_some e_v4
      obtain ⟨v5, e_v5, h⟩ := ob h
      have e_v5a : boundOk (s1.1.length + 1) 8 = true := bnd_of (by have := (app_some e_v5).1; simpa using this) (by decide)
      have e_v5b : (List.map rowI s1.1) ++ [[iv v4]] = List.map rowI v5 := by rw [(app_some e_v5).2]; simp [rowI]
      obtain ⟨v6, e_v6, h⟩ := ob h
      have e_v6c : call Tryd.prog T H (.fn 69) [.p (.agg [iv x1.Sym, .sl none 2 (List.map row_Tree x1.Kids)]), .p (.sl none 1 (List.map rowI a1)), .ptr p2 0, .mp p3] ((List.set (List.set σ p2 (.cells [.p (iv s1.2)])) p3 (.map none (List.map (kvE kS pvB) a3))) ++ [.cells [.p (iv a0.Sym), .p (.sl none 2 (List.map row_Tree a0.Kids))], .cells [.p (iv x1.Sym), .p (.sl none 2 (List.map row_Tree x1.Kids))]]) = some (.ret (.p (bv v6.1)), ((List.set (List.set σ p2 (.cells [.p (iv v6.2)])) p3 (.map none (List.map (kvE kS pvB) a3))) ++ [.cells [.p (iv a0.Sym), .p (.sl none 2 (List.map row_Tree a0.Kids))], .cells [.p (iv x1.Sym), .p (.sl none 2 (List.map row_Tree x1.Kids))]])) := by have q := ih ((List.set (List.set σ p2 (.cells [.p (iv s1.2)])) p3 (.map none (List.map (kvE kS pvB) a3))) ++ [.cells [.p (iv a0.Sym), .p (.sl none 2 (List.map row_Tree a0.Kids))], .cells [.p (iv x1.Sym), .p (.sl none 2 (List.map row_Tree x1.Kids))]]) p2 (by simp only [List.length_append, List.length_set, List.length_cons, List.length_nil]; omega) p3 (by simp only [List.length_append, List.length_set, List.length_cons, List.length_nil]; omega) (by omega) (by omega) x1 a1 s1.2 a3 v6 e_v6; first | (simp only [go_sem, hp2, fun k => Nat.lt_add_right k hp2, hp3, fun k => Nat.lt_add_right k hp3, hne2_3, hne3_2, Nat.not_le_of_lt hp2, fun k => Nat.not_le_of_lt (Nat.lt_add_right k hp2), Nat.not_le_of_lt hp3, fun k => Nat.not_le_of_lt (Nat.lt_add_right k hp3)] at q ⊢; exact q) | exact q
      by_cases c1 : v6.1 = true
      · have h := iteT h c1
        simp only [go_sem, hx1, hi1, hw1, e_v4a, e_v4b, e_v5a, e_v5b, e_v6c, c1, hR1, hE1, hp2, fun k => Nat.lt_add_right k hp2, hp3, fun k => Nat.lt_add_right k hp3, hne2_3, hne3_2, Nat.not_le_of_lt hp2, fun k => Nat.not_le_of_lt (Nat.lt_add_right k hp2), Nat.not_le_of_lt hp3, fun k => Nat.not_le_of_lt (Nat.lt_add_right k hp3)]
        exact ih1 (v5, v6.2) h
      · have h := iteF h c1
        have c1 := eq_false_of_ne_true c1
        simp only [go_sem, hx1, hi1, hw1, e_v4a, e_v4b, e_v5a, e_v5b, e_v6c, c1, hR1, hE1, hp2, fun k => Nat.lt_add_right k hp2, hp3, fun k => Nat.lt_add_right k hp3, hne2_3, hne3_2, Nat.not_le_of_lt hp2, fun k => Nat.not_le_of_lt (Nat.lt_add_right k hp2), Nat.not_le_of_lt hp3, fun k => Nat.not_le_of_lt (Nat.lt_add_right k hp3)]
        injection h with h; subst h
        exact Sat.ok hQ

def auto_Check (n : Nat) (a0 : Alphabet) (a1 : Automaton) (a2 : Tree) (a3 : List Int) : Option (Bool × Int) :=
  (auto_asked n a0 a1 a2).bind fun v1 =>
  if v1 = 0 then
    (tree_Size n a2).bind fun v2 =>
    if (a3.length : Int) = v2 then
      (a3[0]?).bind fun v3 =>
      (slices_Contains_Lint_int a1.Final v3).bind fun v4 =>
      if v4 = true then
        rangeL a1.Rules ([] : List (Str × Bool)) (fun k1 i1 x1 (s1 : (List (Str × Bool))) n1 =>
          (slices_Clone_Lint_int x1.From).bind fun v6 =>
          (app 8 v6 [x1.To]).bind fun v7 =>
          (auto_key n x1.Sym v7).bind fun v8 =>
          n1 (mput v8 true s1)) fun s1 =>
        (auto_checked_xxrd n a2 a3 0 s1).bind fun v5 =>
        some (v5.1, 0)
      else
        some (false, 0)
    else
      some (false, 0)
  else
    some (false, v1)
theorem spec28 (n : Nat) (a0 : Alphabet) (a1 : Automaton) (a2 : Tree) (a3 : List Int) (r : Bool × Int) (h : auto_Check n a0 a1 a2 a3 = some r) :
    call Tryd.prog T H (.fn 28) [.p (.agg [.sl none 1 (List.map rowI a0.Ranks)]), .p (.agg [iv a1.States, .sl none 1 (List.map rowI a1.Final), .sl none 3 (List.map row_Rule a1.Rules)]), .p (.agg [iv a2.Sym, .sl none 2 (List.map row_Tree a2.Kids)]), .p (.sl none 1 (List.map rowI a3))] [] = some (.ret (.p (.tup [bv r.1, iv r.2])), []) := by
  refine Sat.fn fun Q hQ => ?_
  unfold auto_Check at h
  rw [call28]
  conv => arg 1; arg 7; unfold S03.c28 Tryd.f28; simp only [Option.getD_some]
  obtain ⟨v1, e_v1, h⟩ := ob h
  have e_v1c : call Tryd.prog T H (.fn 49) [.p (.agg [.sl none 1 (List.map rowI a0.Ranks)]), .p (.agg [iv a1.States, .sl none 1 (List.map rowI a1.Final), .sl none 3 (List.map row_Rule a1.Rules)]), .p (.agg [iv a2.Sym, .sl none 2 (List.map row_Tree a2.Kids)])] [] = some (.ret (.p (iv v1)), []) := spec49 n a0 a1 a2 v1 e_v1
  by_cases c1 : v1 = 0
  · have h := iteT h c1
    have c1b : (v1 != 0) = false := bneF c1
    obtain ⟨v2, e_v2, h⟩ := ob h
    have e_v2c : call Tryd.prog T H (.fn 66) [.p (.agg [iv a2.Sym, .sl none 2 (List.map row_Tree a2.Kids)])] [] = some (.ret (.p (iv v2)), []) := spec66 n a2 v2 e_v2
    by_cases c2 : (a3.length : Int) = v2
    · have h := iteT h c2
      have c2b : ((a3.length : Int) != v2) = false := bneF c2
      obtain ⟨v3, e_v3, h⟩ := ob h
      obtain ⟨v4, e_v4, h⟩ := ob h
      have e_v4c : call Tryd.prog T H (.fn 67) [.p (.sl none 1 (List.map rowI a1.Final)), .p (iv v3)] [] = some (.ret (.p (bv v4)), []) := spec67 a1.Final v3 v4 e_v4
      by_cases c3 : v4 = true
      · have h := iteT h c3
        simp only [go_sem, e_v1c, c1b, e_v2c, c2b, e_v3, e_v4c, c3]
        refine run_rangeL (c := L28_0) (live := [3, 6, 11, 38, 39, 40]) (by simp only [go_sem]) (M := fun i1 (s1 : (List (Str × Bool))) => [(3, .p (.sl none 1 (List.map rowI a3))), (6, .ptr 2 0), (11, .mp 3), (38, .p (.sl none 3 (List.map row_Rule a1.Rules))), (39, .p (iv (a1.Rules.length : Int))), (40, .p (iv (i1 : Int)))]) (Z := fun i1 (s1 : (List (Str × Bool))) => [.cells [.p (.sl none 1 (List.map rowI a0.Ranks))], .cells [.p (iv a1.States), .p (.sl none 1 (List.map rowI a1.Final)), .p (.sl none 3 (List.map row_Rule a1.Rules))], .cells [.p (iv a2.Sym), .p (.sl none 2 (List.map row_Tree a2.Kids))], .map none (List.map (kvE kS pvB) s1)]) (N := fun (s1 : (List (Str × Bool))) => ⟨[(3, .p (.sl none 1 (List.map rowI a3))), (6, .ptr 2 0), (11, .mp 3)], [.cells [.p (.sl none 1 (List.map rowI a0.Ranks))], .cells [.p (iv a1.States), .p (.sl none 1 (List.map rowI a1.Final)), .p (.sl none 3 (List.map row_Rule a1.Rules))], .cells [.p (iv a2.Sym), .p (.sl none 2 (List.map row_Tree a2.Kids))], .map none (List.map (kvE kS pvB) s1)], [], none, false⟩) h rfl rfl (fun _ _ => rfl) ?_ ?_ ?_
        · intro s1 h
          try dsimp only at h ⊢
          obtain ⟨v5, e_v5, h⟩ := ob h
          have e_v5c : call Tryd.prog T H (.fn 69) [.p (.agg [iv a2.Sym, .sl none 2 (List.map row_Tree a2.Kids)]), .p (.sl none 1 (List.map rowI a3)), .ptr 4 0, .mp 3] [.cells [.p (.sl none 1 (List.map rowI a0.Ranks))], .cells [.p (iv a1.States), .p (.sl none 1 (List.map rowI a1.Final)), .p (.sl none 3 (List.map row_Rule a1.Rules))], .cells [.p (iv a2.Sym), .p (.sl none 2 (List.map row_Tree a2.Kids))], .map none (List.map (kvE kS pvB) s1), .cells [.p (iv 0)]] = some (.ret (.p (bv v5.1)), [.cells [.p (.sl none 1 (List.map rowI a0.Ranks))], .cells [.p (iv a1.States), .p (.sl none 1 (List.map rowI a1.Final)), .p (.sl none 3 (List.map row_Rule a1.Rules))], .cells [.p (iv a2.Sym), .p (.sl none 2 (List.map row_Tree a2.Kids))], .map none (List.map (kvE kS pvB) s1), .cells [.p (iv v5.2)]]) := by have q := spec69_xxrd n [.cells [.p (.sl none 1 (List.map rowI a0.Ranks))], .cells [.p (iv a1.States), .p (.sl none 1 (List.map rowI a1.Final)), .p (.sl none 3 (List.map row_Rule a1.Rules))], .cells [.p (iv a2.Sym), .p (.sl none 2 (List.map row_Tree a2.Kids))], .map none (List.map (kvE kS pvB) s1), .cells [.p (iv 0)]] 4 (by simp only [List.length_append, List.length_set, List.length_cons, List.length_nil]; omega) 3 (by simp only [List.length_append, List.length_set, List.length_cons, List.length_nil]; omega) (by omega) (by omega) a2 a3 0 s1 v5 e_v5; first | (simp only [go_sem] at q ⊢; exact q) | exact q
          simp only [go_sem, e_v5c]
          injection h with h; subst h
          exact Sat.ok hQ
        · intro K1 s1 hb1 he1
          try dsimp only
          conv => arg 1; arg 7; unfold L28_0 loopAt S03.c28 Tryd.f28; simp only [loopIn, Option.getD_some, if_true]
          simp only [go_sem, he1]
          exact hb1
        · intro K1 k1 i1 x1 s1 n1 hR1 hE1 hb1 hx1 hi1 hw1 ih1 h
          try dsimp only at h ⊢
          conv => arg 1; arg 7; unfold L28_0 loopAt S03.c28 Tryd.f28; simp only [loopIn, Option.getD_some, if_true]
          obtain ⟨v6, e_v6, h⟩ := ob h
          have e_v6c : call Tryd.prog T H (.fn 68) [.p (.sl none 1 (List.map rowI x1.From))] [] = some (.ret (.own 1 (List.map rowI v6)), []) := spec68 x1.From v6 e_v6
          obtain ⟨v7, e_v7, h⟩ := ob h
          have e_v7a : boundOk (v6.length + 1) 8 = true := bnd_of (by have := (app_some e_v7).1; simpa using this) (by decide)
          have e_v7b : (List.map rowI v6) ++ [[iv x1.To]] = List.map rowI v7 := by rw [(app_some e_v7).2]; simp [rowI]
          obtain ⟨v8, e_v8, h⟩ := ob h
          have e_v8c : call Tryd.prog T H (.fn 62) [.p (iv x1.Sym), .p (.sl none 1 (List.map rowI v7))] [] = some (.ret (.p (.lit (.string (bs v8)))), []) := spec62 n x1.Sym v7 v8 e_v8
          have e_m1y : setKV (.string (bs v8)) (bv true) (List.map (kvE kS pvB) s1) = List.map (kvE kS pvB) (mput v8 true s1) := by first | exact set_S pvB v8 true s1 | (have q := set_S pvB v8 true s1; simp only [pvB] at q ⊢; exact q)
          simp only [go_sem, hx1, hi1, hw1, e_v6c, e_v7a, e_v7b, e_v8c, e_m1y, hR1, hE1]
          exact ih1 (mput v8 true s1) h
      · have h := iteF h c3
        have c3 := eq_false_of_ne_true c3
        simp only [go_sem, e_v1c, c1b, e_v2c, c2b, e_v3, e_v4c, c3]
        injection h with h; subst h
        exact Sat.ok hQ
    · have h := iteF h c2
      have c2b : ((a3.length : Int) != v2) = true := bneT c2
      simp only [go_sem, e_v1c, c1b, e_v2c, c2b]
      injection h with h; subst h
      exact Sat.ok hQ
  · have h := iteF h c1
    have c1b : (v1 != 0) = true := bneT c1
    simp only [go_sem, e_v1c, c1b]
    injection h with h; subst h
    exact Sat.ok hQ

def ref03_walk : Nat → Automaton → Tree → (List Int) → Option ((List Int) × Bool)
  | 0, _, _, _ => none
  | n + 1, a0, a1, a2 =>
    (a2[0]?).bind fun v1 =>
    (slcF a2 1).bind fun v2 =>
    rangeL a1.Kids (v2, ([] : List Int)) (fun k1 i1 x1 (s1 : (List Int) × (List Int)) n1 =>
      (s1.1[0]?).bind fun v4 =>
      (app 8 s1.2 [v4]).bind fun v5 =>
      (ref03_walk n a0 x1 s1.1).bind fun v6 =>
      if v6.2 = true then
        n1 (v6.1, v5)
      else
        some (([] : List Int), false)) fun s1 =>
    rangeL a0.Rules () (fun k2 i2 x2 (s2 : Unit) n2 =>
      if x2.Sym = a1.Sym then
        if x2.To = v1 then
          (ref01_List x2.From s1.2).bind fun v3 =>
          if v3 = true then
            some (s1.1, true)
          else
            n2 ()
        else
          n2 ()
      else
        n2 ()) fun s2 =>
    some (([] : List Int), false)
theorem spec71 : ∀ (n : Nat), (∀ (a0 : Automaton) (a1 : Tree) (a2 : List Int) (r : (List Int) × Bool), ref03_walk n a0 a1 a2 = some r →
    call Tryd.prog T H (.fn 71) [.p (.agg [iv a0.States, .sl none 1 (List.map rowI a0.Final), .sl none 3 (List.map row_Rule a0.Rules)]), .p (.agg [iv a1.Sym, .sl none 2 (List.map row_Tree a1.Kids)]), .p (.sl none 1 (List.map rowI a2))] [] = some (.ret (.p (.tup [.sl none 1 (List.map rowI r.1), bv r.2])), [])) := by
  intro n
  induction n with
  | zero => intro a0 a1 a2 r h; cases h
  | succ n ih =>
    intro a0 a1 a2 r h
    refine Sat.fn fun Q hQ => ?_
    rw [ref03_walk] at h
    rw [call71]
    conv => arg 1; arg 7; unfold S03.c71 Tryd.f71; simp only [Option.getD_some]
    obtain ⟨v1, e_v1, h⟩ := ob h
    obtain ⟨v2, e_v2, h⟩ := ob h
    obtain ⟨e_v21, e_v22, e_v23, e_v24⟩ := slcF_some e_v2
    simp only [Int.reduceToNat] at e_v22
    simp only [Int.reduceToNat] at e_v24
    simp only [go_sem, e_v1, e_v22, ← e_v24]
    refine run_rangeL (c := L71_0) (live := [2, 3, 4, 8, 9, 21, 22, 23]) (by simp only [go_sem]) (M := fun i1 (s1 : (List Int) × (List Int)) => [(2, .p (.sl none 1 (List.map rowI s1.1))), (3, .ptr 0 0), (4, .ptr 1 0), (8, .p (iv v1)), (9, .own 1 (List.map rowI s1.2)), (21, .p (.sl none 2 (List.map row_Tree a1.Kids))), (22, .p (iv (a1.Kids.length : Int))), (23, .p (iv (i1 : Int)))]) (Z := fun i1 (s1 : (List Int) × (List Int)) => [.cells [.p (iv a0.States), .p (.sl none 1 (List.map rowI a0.Final)), .p (.sl none 3 (List.map row_Rule a0.Rules))], .cells [.p (iv a1.Sym), .p (.sl none 2 (List.map row_Tree a1.Kids))]]) (N := fun (s1 : (List Int) × (List Int)) => ⟨[(2, .p (.sl none 1 (List.map rowI s1.1))), (3, .ptr 0 0), (4, .ptr 1 0), (8, .p (iv v1)), (9, .own 1 (List.map rowI s1.2))], [.cells [.p (iv a0.States), .p (.sl none 1 (List.map rowI a0.Final)), .p (.sl none 3 (List.map row_Rule a0.Rules))], .cells [.p (iv a1.Sym), .p (.sl none 2 (List.map row_Tree a1.Kids))]], [], none, false⟩) h rfl rfl (fun _ _ => rfl) ?_ ?_ ?_
    · intro s1 h
      try dsimp only at h ⊢
      simp only [go_sem]
      refine run_rangeL (c := L71_2) (live := [2, 4, 8, 9, 44, 45, 46]) (by simp only [go_sem]) (M := fun i2 (s2 : Unit) => [(2, .p (.sl none 1 (List.map rowI s1.1))), (4, .ptr 1 0), (8, .p (iv v1)), (9, .own 1 (List.map rowI s1.2)), (44, .p (.sl none 3 (List.map row_Rule a0.Rules))), (45, .p (iv (a0.Rules.length : Int))), (46, .p (iv (i2 : Int)))]) (Z := fun i2 (s2 : Unit) => [.cells [.p (iv a0.States), .p (.sl none 1 (List.map rowI a0.Final)), .p (.sl none 3 (List.map row_Rule a0.Rules))], .cells [.p (iv a1.Sym), .p (.sl none 2 (List.map row_Tree a1.Kids))]]) (N := fun (s2 : Unit) => ⟨[], [.cells [.p (iv a0.States), .p (.sl none 1 (List.map rowI a0.Final)), .p (.sl none 3 (List.map row_Rule a0.Rules))], .cells [.p (iv a1.Sym), .p (.sl none 2 (List.map row_Tree a1.Kids))]], [], none, false⟩) h rfl rfl (fun _ _ => rfl) ?_ ?_ ?_
      · intro s2 h
        try dsimp only at h ⊢
        simp only [go_sem]
        injection h with h; subst h
        exact Sat.ok hQ
      · intro K2 s2 hb2 he2
        try dsimp only
        conv => arg 1; arg 7; unfold L71_2 loopAt S03.c71 Tryd.f71; simp only [loopIn, Option.getD_some, if_true]
        simp only [go_sem, he2]
        exact hb2
      · intro K2 k2 i2 x2 s2 n2 hR2 hE2 hb2 hx2 hi2 hw2 ih2 h
        try dsimp only at h ⊢
        conv => arg 1; arg 7; unfold L71_2 loopAt S03.c71 Tryd.f71; simp only [loopIn, Option.getD_some, if_true]
        by_cases c1 : x2.Sym = a1.Sym
        · have h := iteT h c1
          have c1b : (x2.Sym == a1.Sym) = true := beqT c1
          by_cases c2 : x2.To = v1
          · have h := iteT h c2
            have c2b : (x2.To == v1) = true := beqT c2
            obtain ⟨v3, e_v3, h⟩ := ob h
            have e_v3c : call Tryd.prog T H (.fn 15) [.p (.sl none 1 (List.map rowI x2.From)), .p (.sl none 1 (List.map rowI s1.2))] [] = some (.ret (.p (bv v3)), []) := spec15 x2.From s1.2 v3 e_v3
            by_cases c3 : v3 = true
            · have h := iteT h c3
              simp only [go_sem, hx2, hi2, hw2, c1b, c2b, e_v3c, c3, hR2, hE2]
              injection h with h; subst h
              exact Sat.ok hQ
            · have h := iteF h c3
              have c3 := eq_false_of_ne_true c3
              simp only [go_sem, hx2, hi2, hw2, c1b, c2b, e_v3c, c3, hR2, hE2]
              exact ih2 () h
          · have h := iteF h c2
            have c2b : (x2.To == v1) = false := beqF c2
            simp only [go_sem, hx2, hi2, hw2, c1b, c2b, hR2, hE2]
            exact ih2 () h
        · have h := iteF h c1
          have c1b : (x2.Sym == a1.Sym) = false := beqF c1
          simp only [go_sem, hx2, hi2, hw2, c1b, hR2, hE2]
          exact ih2 () h
    · intro K1 s1 hb1 he1
      try dsimp only
      conv => arg 1; arg 7; unfold L71_0 loopAt S03.c71 Tryd.f71; simp only [loopIn, Option.getD_some, if_true]
      simp only [go_sem, he1]
      exact hb1
    · intro K1 k1 i1 x1 s1 n1 hR1 hE1 hb1 hx1 hi1 hw1 ih1 h
      try dsimp only at h ⊢
      conv => arg 1; arg 7; unfold L71_0 loopAt S03.c71 Tryd.f71; simp only [loopIn, Option.getD_some, if_true]
      obtain ⟨v4, e_v4, h⟩ := ob h
      obtain ⟨v5, e_v5, h⟩ := ob h
      have e_v5a : boundOk (s1.2.length + 1) 8 = true := bnd_of (by have := (app_some e_v5).1; simpa using this) (by decide)
      have e_v5b : (List.map rowI s1.2) ++ [[iv v4]] = List.map rowI v5 := by rw [(app_some e_v5).2]; simp [rowI]
      obtain ⟨v6, e_v6, h⟩ := ob h
      have e_v6c : call Tryd.prog T H (.fn 71) [.p (.agg [iv a0.States, .sl none 1 (List.map rowI a0.Final), .sl none 3 (List.map row_Rule a0.Rules)]), .p (.agg [iv x1.Sym, .sl none 2 (List.map row_Tree x1.Kids)]), .p (.sl none 1 (List.map rowI s1.1))] [] = some (.ret (.p (.tup [.sl none 1 (List.map rowI v6.1), bv v6.2])), []) := ih a0 x1 s1.1 v6 e_v6
      by_cases c4 : v6.2 = true
      · have h := iteT h c4
        simp only [go_sem, hx1, hi1, hw1, e_v4, e_v5a, e_v5b, e_v6c, c4, hR1, hE1]
        exact ih1 (v6.1, v5) h
      · have h := iteF h c4
        have c4 := eq_false_of_ne_true c4
        simp only [go_sem, hx1, hi1, hw1, e_v4, e_v5a, e_v5b, e_v6c, c4, hR1, hE1]
        injection h with h; subst h
        exact Sat.ok hQ

def ref03_IsRun (n : Nat) (a0 : Automaton) (a1 : Tree) (a2 : List Int) : Option Bool :=
  (ref01_Size n a1).bind fun v1 =>
  if (a2.length : Int) = v1 then
    (a2[0]?).bind fun v2 =>
    (ref03_In a0.Final v2).bind fun v3 =>
    if v3 = true then
      (ref03_walk n a0 a1 a2).bind fun v4 =>
      some v4.2
    else
      some false
  else
    some false
theorem spec31 (n : Nat) (a0 : Automaton) (a1 : Tree) (a2 : List Int) (r : Bool) (h : ref03_IsRun n a0 a1 a2 = some r) :
    call Tryd.prog T H (.fn 31) [.p (.agg [iv a0.States, .sl none 1 (List.map rowI a0.Final), .sl none 3 (List.map row_Rule a0.Rules)]), .p (.agg [iv a1.Sym, .sl none 2 (List.map row_Tree a1.Kids)]), .p (.sl none 1 (List.map rowI a2))] [] = some (.ret (.p (bv r)), []) := by
  refine Sat.fn fun Q hQ => ?_
  unfold ref03_IsRun at h
  rw [call31]
  conv => arg 1; arg 7; unfold S03.c31 Tryd.f31; simp only [Option.getD_some]
  obtain ⟨v1, e_v1, h⟩ := ob h
  have e_v1c : call Tryd.prog T H (.fn 26) [.p (.agg [iv a1.Sym, .sl none 2 (List.map row_Tree a1.Kids)])] [] = some (.ret (.p (iv v1)), []) := spec26 n a1 v1 e_v1
  by_cases c1 : (a2.length : Int) = v1
  · have h := iteT h c1
    have c1b : ((a2.length : Int) != v1) = false := bneF c1
    obtain ⟨v2, e_v2, h⟩ := ob h
    obtain ⟨v3, e_v3, h⟩ := ob h
    have e_v3c : call Tryd.prog T H (.fn 18) [.p (.sl none 1 (List.map rowI a0.Final)), .p (iv v2)] [] = some (.ret (.p (bv v3)), []) := spec18 a0.Final v2 v3 e_v3
    by_cases c2 : v3 = true
    · have h := iteT h c2
      obtain ⟨v4, e_v4, h⟩ := ob h
      have e_v4c : call Tryd.prog T H (.fn 71) [.p (.agg [iv a0.States, .sl none 1 (List.map rowI a0.Final), .sl none 3 (List.map row_Rule a0.Rules)]), .p (.agg [iv a1.Sym, .sl none 2 (List.map row_Tree a1.Kids)]), .p (.sl none 1 (List.map rowI a2))] [] = some (.ret (.p (.tup [.sl none 1 (List.map rowI v4.1), bv v4.2])), []) := spec71 n a0 a1 a2 v4 e_v4
      simp only [go_sem, e_v1c, c1b, e_v2, e_v3c, c2, e_v4c]
      injection h with h; subst h
      exact Sat.ok hQ
    · have h := iteF h c2
      have c2 := eq_false_of_ne_true c2
      simp only [go_sem, e_v1c, c1b, e_v2, e_v3c, c2]
      injection h with h; subst h
      exact Sat.ok hQ
  · have h := iteF h c1
    have c1b : ((a2.length : Int) != v1) = true := bneT c1
    simp only [go_sem, e_v1c, c1b]
    injection h with h; subst h
    exact Sat.ok hQ

def ref03_Check (n : Nat) (a0 : Alphabet) (a1 : Automaton) (a2 : Tree) (a3 : List Int) : Option (Bool × Int) :=
  (ref03_Asked n a0 a1 a2).bind fun v1 =>
  if v1 = 0 then
    (ref03_IsRun n a1 a2 a3).bind fun v2 =>
    some (v2, 0)
  else
    some (false, v1)
theorem spec29 (n : Nat) (a0 : Alphabet) (a1 : Automaton) (a2 : Tree) (a3 : List Int) (r : Bool × Int) (h : ref03_Check n a0 a1 a2 a3 = some r) :
    call Tryd.prog T H (.fn 29) [.p (.agg [.sl none 1 (List.map rowI a0.Ranks)]), .p (.agg [iv a1.States, .sl none 1 (List.map rowI a1.Final), .sl none 3 (List.map row_Rule a1.Rules)]), .p (.agg [iv a2.Sym, .sl none 2 (List.map row_Tree a2.Kids)]), .p (.sl none 1 (List.map rowI a3))] [] = some (.ret (.p (.tup [bv r.1, iv r.2])), []) := by
  refine Sat.fn fun Q hQ => ?_
  unfold ref03_Check at h
  rw [call29]
  conv => arg 1; arg 7; unfold S03.c29 Tryd.f29; simp only [Option.getD_some]
  obtain ⟨v1, e_v1, h⟩ := ob h
  have e_v1c : call Tryd.prog T H (.fn 52) [.p (.agg [.sl none 1 (List.map rowI a0.Ranks)]), .p (.agg [iv a1.States, .sl none 1 (List.map rowI a1.Final), .sl none 3 (List.map row_Rule a1.Rules)]), .p (.agg [iv a2.Sym, .sl none 2 (List.map row_Tree a2.Kids)])] [] = some (.ret (.p (iv v1)), []) := spec52 n a0 a1 a2 v1 e_v1
  by_cases c1 : v1 = 0
  · have h := iteT h c1
    have c1b : (v1 != 0) = false := bneF c1
    obtain ⟨v2, e_v2, h⟩ := ob h
    have e_v2c : call Tryd.prog T H (.fn 31) [.p (.agg [iv a1.States, .sl none 1 (List.map rowI a1.Final), .sl none 3 (List.map row_Rule a1.Rules)]), .p (.agg [iv a2.Sym, .sl none 2 (List.map row_Tree a2.Kids)]), .p (.sl none 1 (List.map rowI a3))] [] = some (.ret (.p (bv v2)), []) := spec31 n a1 a2 a3 v2 e_v2
    simp only [go_sem, e_v1c, c1b, e_v2c]
    injection h with h; subst h
    exact Sat.ok hQ
  · have h := iteF h c1
    have c1b : (v1 != 0) = true := bneT c1
    simp only [go_sem, e_v1c, c1b]
    injection h with h; subst h
    exact Sat.ok hQ

def auto_run : Nat → Automaton → (List (List Int)) → Tree → (List (List Bool)) → Int → Int → (List Int) → Option (List Int)
  | 0, _, _, _, _, _, _, _ => none
  | n + 1, a0, a1, a2, a3, a4, a5, a6 =>
    (app 8 a6 [a5]).bind fun v1 =>
    (mkz 8 (a2.Kids.length : Int) (a2.Kids.length : Int) 0).bind fun v2 =>
    rangeL a2.Kids (w64 (a4 + 1), v2) (fun k1 i1 x1 (s1 : Int × (List Int)) n1 =>
      (idxM a2.Kids.length s1.2 (i1 : Int)).bind fun v11 =>
      (tree_Size n x1).bind fun v12 =>
      n1 (w64 (s1.1 + v12), (List.set s1.2 i1 s1.1))) fun s1 =>
    (idx a1 a2.Sym).bind fun v3 =>
    rangeL v3 () (fun k4 i4 x4 (s4 : Unit) n4 =>
      (idx a0.Rules x4).bind fun v4 =>
      if v4.To = a5 then
        rangeL v4.From true (fun k5 i5 x5 (s5 : Bool) n5 =>
          if s5 = true then
            (idxM a2.Kids.length s1.2 (i5 : Int)).bind fun v8 =>
            (idx a3 v8).bind fun v9 =>
            (idx v9 x5).bind fun v10 =>
            n5 v10
          else
            n5 false) fun s5 =>
        if s5 = true then
          rangeL v4.From v1 (fun k6 i6 x6 (s6 : (List Int)) n6 =>
            (a2.Kids[i6]?).bind fun v5 =>
            (idxM a2.Kids.length s1.2 (i6 : Int)).bind fun v6 =>
            (auto_run n a0 a1 v5 a3 v6 x6 s6).bind fun v7 =>
            n6 v7) fun s6 =>
          some s6
        else
          n4 ()
      else
        n4 ()) fun s4 =>
    some v1
theorem spec70 : ∀ (n : Nat), (∀ (a0 : Automaton) (a1 : List (List Int)) (a2 : Tree) (a3 : List (List Bool)) (a4 : Int) (a5 : Int) (a6 : List Int) (r : List Int), auto_run n a0 a1 a2 a3 a4 a5 a6 = some r →
    call Tryd.prog T H (.fn 70) [.p (.agg [iv a0.States, .sl none 1 (List.map rowI a0.Final), .sl none 3 (List.map row_Rule a0.Rules)]), .p (.sl none 1 (List.map (rowL 1 rowI) a1)), .p (.agg [iv a2.Sym, .sl none 2 (List.map row_Tree a2.Kids)]), .p (.sl none 1 (List.map (rowL 1 rowB) a3)), .p (iv a4), .p (iv a5), .own 1 (List.map rowI a6)] [] = some (.ret (.own 1 (List.map rowI r)), [])) := by
  intro n
  induction n with
  | zero => intro a0 a1 a2 a3 a4 a5 a6 r h; cases h
  | succ n ih =>
    intro a0 a1 a2 a3 a4 a5 a6 r h
    refine Sat.fn fun Q hQ => ?_
    rw [auto_run] at h
    rw [call70]
    conv => arg 1; arg 7; unfold S03.c70 Tryd.f70; simp only [Option.getD_some]
    obtain ⟨v1, e_v1, h⟩ := ob h
    have e_v1a : boundOk (a6.length + 1) 8 = true := bnd_of (by have := (app_some e_v1).1; simpa using this) (by decide)
    have e_v1b : (List.map rowI a6) ++ [[iv a5]] = List.map rowI v1 := by rw [(app_some e_v1).2]; simp [rowI]
    obtain ⟨v2, e_v2, h⟩ := ob h
    obtain ⟨e_v21, e_v22, e_v23, e_v24⟩ := mkz_some e_v2
    have e_v2b : boundOk ((a2.Kids.length : Int)).toNat 8 = true := bnd_of e_v23 (by decide)
    have e_v2r : List.replicate ((a2.Kids.length : Int)).toNat [AV.p (iv 0)] = List.map (rowA rowI) v2 := by rw [e_v24]; exact rep_map (by first | rfl | simp only [go_sem, List.map_nil])
    try simp only [Int.toNat_natCast] at e_v21
    try simp only [Int.toNat_natCast] at e_v22
    try simp only [Int.toNat_natCast] at e_v2b
    try simp only [Int.toNat_natCast] at e_v2r
    try simp only [Int.toNat_natCast] at e_v21
    try simp only [Int.toNat_natCast] at e_v22
    try simp only [Int.toNat_natCast] at e_v2b
    try simp only [Int.toNat_natCast] at e_v2r
    simp only [go_sem, e_v1a, e_v1b, e_v21, e_v22, e_v2b, e_v2r]
    refine run_rangeL (c := L70_0) (live := [1, 3, 5, 6, 7, 9, 15, 16, 38, 39, 40]) (by simp only [go_sem]) (M := fun i1 (s1 : Int × (List Int)) => [(1, .p (.sl none 1 (List.map (rowL 1 rowI) a1))), (3, .p (.sl none 1 (List.map (rowL 1 rowB) a3))), (5, .p (iv a5)), (6, .own 1 (List.map rowI v1)), (7, .ptr 0 0), (9, .ptr 1 0), (15, .ms 2 0 1 0 a2.Kids.length), (16, .p (iv s1.1)), (38, .p (.sl none 2 (List.map row_Tree a2.Kids))), (39, .p (iv (a2.Kids.length : Int))), (40, .p (iv (i1 : Int)))]) (Z := fun i1 (s1 : Int × (List Int)) => [.cells [.p (iv a0.States), .p (.sl none 1 (List.map rowI a0.Final)), .p (.sl none 3 (List.map row_Rule a0.Rules))], .cells [.p (iv a2.Sym), .p (.sl none 2 (List.map row_Tree a2.Kids))], .arr 0 1 (List.map (rowA rowI) s1.2)]) (N := fun (s1 : Int × (List Int)) => ⟨[(1, .p (.sl none 1 (List.map (rowL 1 rowI) a1))), (3, .p (.sl none 1 (List.map (rowL 1 rowB) a3))), (5, .p (iv a5)), (6, .own 1 (List.map rowI v1)), (7, .ptr 0 0), (9, .ptr 1 0), (15, .ms 2 0 1 0 a2.Kids.length)], [.cells [.p (iv a0.States), .p (.sl none 1 (List.map rowI a0.Final)), .p (.sl none 3 (List.map row_Rule a0.Rules))], .cells [.p (iv a2.Sym), .p (.sl none 2 (List.map row_Tree a2.Kids))], .arr 0 1 (List.map (rowA rowI) s1.2)], [], none, false⟩) h rfl rfl (fun _ _ => rfl) ?_ ?_ ?_
    · intro s1 h
      try dsimp only at h ⊢
      obtain ⟨v3, e_v3, h⟩ := ob h
      obtain ⟨e_v3a, e_v3b⟩ := idx_some e_v3
      simp only [go_sem, e_v3a, e_v3b]
      refine run_rangeL (c := L70_2) (live := [1, 3, 5, 6, 7, 9, 15, 58, 59, 60]) (by simp only [go_sem]) (M := fun i4 (s4 : Unit) => [(1, .p (.sl none 1 (List.map (rowL 1 rowI) a1))), (3, .p (.sl none 1 (List.map (rowL 1 rowB) a3))), (5, .p (iv a5)), (6, .own 1 (List.map rowI v1)), (7, .ptr 0 0), (9, .ptr 1 0), (15, .ms 2 0 1 0 a2.Kids.length), (58, .p (.sl none 1 (List.map rowI v3))), (59, .p (iv (v3.length : Int))), (60, .p (iv (i4 : Int)))]) (Z := fun i4 (s4 : Unit) => [.cells [.p (iv a0.States), .p (.sl none 1 (List.map rowI a0.Final)), .p (.sl none 3 (List.map row_Rule a0.Rules))], .cells [.p (iv a2.Sym), .p (.sl none 2 (List.map row_Tree a2.Kids))], .arr 0 1 (List.map (rowA rowI) s1.2)]) (N := fun (s4 : Unit) => ⟨[(6, .own 1 (List.map rowI v1))], [.cells [.p (iv a0.States), .p (.sl none 1 (List.map rowI a0.Final)), .p (.sl none 3 (List.map row_Rule a0.Rules))], .cells [.p (iv a2.Sym), .p (.sl none 2 (List.map row_Tree a2.Kids))], .arr 0 1 (List.map (rowA rowI) s1.2)], [], none, false⟩) h rfl rfl (fun _ _ => rfl) ?_ ?_ ?_
      · intro s4 h
        try dsimp only at h ⊢
        simp only [go_sem]
        injection h with h; subst h
        exact Sat.ok hQ
      · intro K4 s4 hb4 he4
        try dsimp only
        conv => arg 1; arg 7; unfold L70_2 loopAt S03.c70 Tryd.f70; simp only [loopIn, Option.getD_some, if_true]
        simp only [go_sem, he4]
        exact hb4
      · intro K4 k4 i4 x4 s4 n4 hR4 hE4 hb4 hx4 hi4 hw4 ih4 h
        try dsimp only at h ⊢
        conv => arg 1; arg 7; unfold L70_2 loopAt S03.c70 Tryd.f70; simp only [loopIn, Option.getD_some, if_true]
        obtain ⟨v4, e_v4, h⟩ := ob h
        obtain ⟨e_v4a, e_v4b⟩ := idx_some e_v4
        by_cases c1 : v4.To = a5
        · have h := iteT h c1
          have c1b : (v4.To != a5) = false := bneF c1
          simp only [go_sem, hx4, hi4, hw4, e_v4a, e_v4b, c1b, hR4, hE4]
          refine run_rangeL (c := L70_4) (live := [1, 3, 5, 6, 7, 9, 15, 21, 22, 58, 59, 60, 74, 75, 76]) (by simp only [go_sem]) (M := fun i5 (s5 : Bool) => [(1, .p (.sl none 1 (List.map (rowL 1 rowI) a1))), (3, .p (.sl none 1 (List.map (rowL 1 rowB) a3))), (5, .p (iv a5)), (6, .own 1 (List.map rowI v1)), (7, .ptr 0 0), (9, .ptr 1 0), (15, .ms 2 0 1 0 a2.Kids.length), (21, .ptr 3 0), (22, .p (bv s5)), (58, .p (.sl none 1 (List.map rowI v3))), (59, .p (iv (v3.length : Int))), (60, .p (iv (i4 : Int))), (74, .p (.sl none 1 (List.map rowI v4.From))), (75, .p (iv (v4.From.length : Int))), (76, .p (iv (i5 : Int)))]) (Z := fun i5 (s5 : Bool) => [.cells [.p (iv a0.States), .p (.sl none 1 (List.map rowI a0.Final)), .p (.sl none 3 (List.map row_Rule a0.Rules))], .cells [.p (iv a2.Sym), .p (.sl none 2 (List.map row_Tree a2.Kids))], .arr 0 1 (List.map (rowA rowI) s1.2), .cells [.p (iv v4.Sym), .p (.sl none 1 (List.map rowI v4.From)), .p (iv v4.To)]]) (N := fun (s5 : Bool) => ⟨[(1, .p (.sl none 1 (List.map (rowL 1 rowI) a1))), (3, .p (.sl none 1 (List.map (rowL 1 rowB) a3))), (5, .p (iv a5)), (6, .own 1 (List.map rowI v1)), (7, .ptr 0 0), (9, .ptr 1 0), (15, .ms 2 0 1 0 a2.Kids.length), (21, .ptr 3 0), (22, .p (bv s5)), (58, .p (.sl none 1 (List.map rowI v3))), (59, .p (iv (v3.length : Int))), (60, .p (iv (i4 : Int)))], [.cells [.p (iv a0.States), .p (.sl none 1 (List.map rowI a0.Final)), .p (.sl none 3 (List.map row_Rule a0.Rules))], .cells [.p (iv a2.Sym), .p (.sl none 2 (List.map row_Tree a2.Kids))], .arr 0 1 (List.map (rowA rowI) s1.2), .cells [.p (iv v4.Sym), .p (.sl none 1 (List.map rowI v4.From)), .p (iv v4.To)]], [], none, false⟩) h rfl rfl (fun _ _ => rfl) ?_ ?_ ?_
          · intro s5 h
            try dsimp only at h ⊢
            by_cases c2 : s5 = true
            · have h := iteT h c2
              simp only [go_sem, c2, hw4, hR4, hE4]
              refine run_rangeL (c := L70_6) (live := [1, 3, 6, 7, 9, 15, 97, 98, 99]) (by simp only [go_sem]) (M := fun i6 (s6 : (List Int)) => [(1, .p (.sl none 1 (List.map (rowL 1 rowI) a1))), (3, .p (.sl none 1 (List.map (rowL 1 rowB) a3))), (6, .own 1 (List.map rowI s6)), (7, .ptr 0 0), (9, .ptr 1 0), (15, .ms 2 0 1 0 a2.Kids.length), (97, .p (.sl none 1 (List.map rowI v4.From))), (98, .p (iv (v4.From.length : Int))), (99, .p (iv (i6 : Int)))]) (Z := fun i6 (s6 : (List Int)) => [.cells [.p (iv a0.States), .p (.sl none 1 (List.map rowI a0.Final)), .p (.sl none 3 (List.map row_Rule a0.Rules))], .cells [.p (iv a2.Sym), .p (.sl none 2 (List.map row_Tree a2.Kids))], .arr 0 1 (List.map (rowA rowI) s1.2), .cells [.p (iv v4.Sym), .p (.sl none 1 (List.map rowI v4.From)), .p (iv v4.To)]]) (N := fun (s6 : (List Int)) => ⟨[(6, .own 1 (List.map rowI s6))], [.cells [.p (iv a0.States), .p (.sl none 1 (List.map rowI a0.Final)), .p (.sl none 3 (List.map row_Rule a0.Rules))], .cells [.p (iv a2.Sym), .p (.sl none 2 (List.map row_Tree a2.Kids))], .arr 0 1 (List.map (rowA rowI) s1.2), .cells [.p (iv v4.Sym), .p (.sl none 1 (List.map rowI v4.From)), .p (iv v4.To)]], [], none, false⟩) h rfl rfl (fun _ _ => rfl) ?_ ?_ ?_
              · intro s6 h
                try dsimp only at h ⊢
                simp only [go_sem, hw4, hR4, hE4]
                injection h with h; subst h
                exact Sat.ok hQ
              · intro K6 s6 hb6 he6
                try dsimp only
                conv => arg 1; arg 7; unfold L70_6 loopAt S03.c70 Tryd.f70; simp only [loopIn, Option.getD_some, if_true]
                simp only [go_sem, he6]
                exact hb6
              · intro K6 k6 i6 x6 s6 n6 hR6 hE6 hb6 hx6 hi6 hw6 ih6 h
                try dsimp only at h ⊢
                conv => arg 1; arg 7; unfold L70_6 loopAt S03.c70 Tryd.f70; simp only [loopIn, Option.getD_some, if_true]
                obtain ⟨v5, e_v5, h⟩ := ob h
                obtain ⟨v6, e_v6, h⟩ := ob h
                obtain ⟨e_v6a, e_v6b, e_v6d⟩ := idxM_some e_v6
                simp only [Int.toNat_natCast] at e_v6b
                simp only [Int.toNat_natCast] at e_v6d
                obtain ⟨v7, e_v7, h⟩ := ob h
                have e_v7c : call Tryd.prog T H (.fn 70) [.p (.agg [iv a0.States, .sl none 1 (List.map rowI a0.Final), .sl none 3 (List.map row_Rule a0.Rules)]), .p (.sl none 1 (List.map (rowL 1 rowI) a1)), .p (.agg [iv v5.Sym, .sl none 2 (List.map row_Tree v5.Kids)]), .p (.sl none 1 (List.map (rowL 1 rowB) a3)), .p (iv v6), .p (iv x6), .own 1 (List.map rowI s6)] [] = some (.ret (.own 1 (List.map rowI v7)), []) := ih a0 a1 v5 a3 v6 x6 s6 v7 e_v7
                simp only [go_sem, hx6, hi6, hw6, e_v5, e_v6b, e_v6d, e_v7c, hw4, hR4, hE4, hR6, hE6]
                exact ih6 v7 h
            · have h := iteF h c2
              have c2 := eq_false_of_ne_true c2
              simp only [go_sem, c2, hw4, hR4, hE4]
              exact ih4 () h
          · intro K5 s5 hb5 he5
            try dsimp only
            conv => arg 1; arg 7; unfold L70_4 loopAt S03.c70 Tryd.f70; simp only [loopIn, Option.getD_some, if_true]
            simp only [go_sem, he5]
            exact hb5
          · intro K5 k5 i5 x5 s5 n5 hR5 hE5 hb5 hx5 hi5 hw5 ih5 h
            try dsimp only at h ⊢
            conv => arg 1; arg 7; unfold L70_4 loopAt S03.c70 Tryd.f70; simp only [loopIn, Option.getD_some, if_true]
            by_cases c3 : s5 = true
            · have h := iteT h c3
              obtain ⟨v8, e_v8, h⟩ := ob h
              obtain ⟨e_v8a, e_v8b, e_v8d⟩ := idxM_some e_v8
              simp only [Int.toNat_natCast] at e_v8b
              simp only [Int.toNat_natCast] at e_v8d
              obtain ⟨v9, e_v9, h⟩ := ob h
              obtain ⟨e_v9a, e_v9b⟩ := idx_some e_v9
              obtain ⟨v10, e_v10, h⟩ := ob h
              obtain ⟨e_v10a, e_v10b⟩ := idx_some e_v10
              simp only [go_sem, hx5, hi5, hw5, c3, e_v8b, e_v8d, e_v9a, e_v9b, e_v10a, e_v10b, hw4, hR4, hE4, hR5, hE5]
              exact ih5 v10 h
            · have h := iteF h c3
              have c3 := eq_false_of_ne_true c3
              simp only [go_sem, hx5, hi5, hw5, c3, hw4, hR4, hE4, hR5, hE5]
              exact ih5 false h
        · have h := iteF h c1
          have c1b : (v4.To != a5) = true := bneT c1
          simp only [go_sem, hx4, hi4, hw4, e_v4a, e_v4b, c1b, hR4, hE4]
          exact ih4 () h
    · intro K1 s1 hb1 he1
      try dsimp only
      conv => arg 1; arg 7; unfold L70_0 loopAt S03.c70 Tryd.f70; simp only [loopIn, Option.getD_some, if_true]
      simp only [go_sem, he1]
      exact hb1
    · intro K1 k1 i1 x1 s1 n1 hR1 hE1 hb1 hx1 hi1 hw1 ih1 h
      try dsimp only at h ⊢
      conv => arg 1; arg 7; unfold L70_0 loopAt S03.c70 Tryd.f70; simp only [loopIn, Option.getD_some, if_true]
      obtain ⟨v11, e_v11, h⟩ := ob h
      obtain ⟨e_v11a, e_v11b, e_v11d⟩ := idxM_some e_v11
      simp only [Int.toNat_natCast] at e_v11b
      simp only [Int.toNat_natCast] at e_v11d
      have e_y1 : List.set (List.map (rowA rowI) s1.2) i1 [.p (iv s1.1)] = List.map (rowA rowI) (List.set s1.2 i1 s1.1) := map_set' (by first | rfl | simp only [go_sem, List.map_cons, List.map_nil])
      obtain ⟨v12, e_v12, h⟩ := ob h
      have e_v12c : call Tryd.prog T H (.fn 66) [.p (.agg [iv x1.Sym, .sl none 2 (List.map row_Tree x1.Kids)])] [] = some (.ret (.p (iv v12)), []) := spec66 n x1 v12 e_v12
      simp only [go_sem, hx1, hi1, hw1, e_v11b, e_v11d, e_y1, e_v12c, hR1, hE1]
      exact ih1 (w64 (s1.1 + v12), (List.set s1.2 i1 s1.1)) h

def auto_Run (n : Nat) (a0 : Alphabet) (a1 : Automaton) (a2 : Tree) : Option ((List Int) × Int) :=
  (auto_asked n a0 a1 a2).bind fun v1 =>
  if v1 = 0 then
    (auto_By a0 a1).bind fun v2 =>
    (auto_sets n a1 v2 a2).bind fun v3 =>
    rangeL a1.Final () (fun k1 i1 x1 (s1 : Unit) n1 =>
      (v3[0]?).bind fun v4 =>
      (idx v4 x1).bind fun v5 =>
      if v5 = true then
        (auto_run n a1 v2 a2 v3 0 x1 ([] : List Int)).bind fun v6 =>
        some (v6, 0)
      else
        n1 ()) fun s1 =>
    some (([] : List Int), 8)
  else
    some (([] : List Int), v1)
theorem spec30 (n : Nat) (a0 : Alphabet) (a1 : Automaton) (a2 : Tree) (r : (List Int) × Int) (h : auto_Run n a0 a1 a2 = some r) :
    call Tryd.prog T H (.fn 30) [.p (.agg [.sl none 1 (List.map rowI a0.Ranks)]), .p (.agg [iv a1.States, .sl none 1 (List.map rowI a1.Final), .sl none 3 (List.map row_Rule a1.Rules)]), .p (.agg [iv a2.Sym, .sl none 2 (List.map row_Tree a2.Kids)])] [] = some (.ret (.p (.tup [.sl none 1 (List.map rowI r.1), iv r.2])), []) := by
  refine Sat.fn fun Q hQ => ?_
  unfold auto_Run at h
  rw [call30]
  conv => arg 1; arg 7; unfold S03.c30 Tryd.f30; simp only [Option.getD_some]
  obtain ⟨v1, e_v1, h⟩ := ob h
  have e_v1c : call Tryd.prog T H (.fn 49) [.p (.agg [.sl none 1 (List.map rowI a0.Ranks)]), .p (.agg [iv a1.States, .sl none 1 (List.map rowI a1.Final), .sl none 3 (List.map row_Rule a1.Rules)]), .p (.agg [iv a2.Sym, .sl none 2 (List.map row_Tree a2.Kids)])] [] = some (.ret (.p (iv v1)), []) := spec49 n a0 a1 a2 v1 e_v1
  by_cases c1 : v1 = 0
  · have h := iteT h c1
    have c1b : (v1 != 0) = false := bneF c1
    obtain ⟨v2, e_v2, h⟩ := ob h
    have e_v2c : call Tryd.prog T H (.fn 51) [.p (.agg [.sl none 1 (List.map rowI a0.Ranks)]), .p (.agg [iv a1.States, .sl none 1 (List.map rowI a1.Final), .sl none 3 (List.map row_Rule a1.Rules)])] [] = some (.ret (.p (.sl none 1 (List.map (rowL 1 rowI) v2))), []) := spec51 a0 a1 v2 e_v2
    obtain ⟨v3, e_v3, h⟩ := ob h
    have e_v3c : call Tryd.prog T H (.fn 50) [.p (.agg [iv a1.States, .sl none 1 (List.map rowI a1.Final), .sl none 3 (List.map row_Rule a1.Rules)]), .p (.sl none 1 (List.map (rowL 1 rowI) v2)), .p (.agg [iv a2.Sym, .sl none 2 (List.map row_Tree a2.Kids)])] [] = some (.ret (.p (.sl none 1 (List.map (rowL 1 rowB) v3))), []) := spec50 n a1 v2 a2 v3 e_v3
    simp only [go_sem, e_v1c, c1b, e_v2c, e_v3c]
    refine run_rangeL (c := L30_0) (live := [4, 5, 9, 10, 28, 29, 30]) (by simp only [go_sem]) (M := fun i1 (s1 : Unit) => [(4, .ptr 1 0), (5, .ptr 2 0), (9, .p (.sl none 1 (List.map (rowL 1 rowI) v2))), (10, .p (.sl none 1 (List.map (rowL 1 rowB) v3))), (28, .p (.sl none 1 (List.map rowI a1.Final))), (29, .p (iv (a1.Final.length : Int))), (30, .p (iv (i1 : Int)))]) (Z := fun i1 (s1 : Unit) => [.cells [.p (.sl none 1 (List.map rowI a0.Ranks))], .cells [.p (iv a1.States), .p (.sl none 1 (List.map rowI a1.Final)), .p (.sl none 3 (List.map row_Rule a1.Rules))], .cells [.p (iv a2.Sym), .p (.sl none 2 (List.map row_Tree a2.Kids))]]) (N := fun (s1 : Unit) => ⟨[], [.cells [.p (.sl none 1 (List.map rowI a0.Ranks))], .cells [.p (iv a1.States), .p (.sl none 1 (List.map rowI a1.Final)), .p (.sl none 3 (List.map row_Rule a1.Rules))], .cells [.p (iv a2.Sym), .p (.sl none 2 (List.map row_Tree a2.Kids))]], [], none, false⟩) h rfl rfl (fun _ _ => rfl) ?_ ?_ ?_
    · intro s1 h
      try dsimp only at h ⊢
      simp only [go_sem]
      injection h with h; subst h
      exact Sat.ok hQ
    · intro K1 s1 hb1 he1
      try dsimp only
      conv => arg 1; arg 7; unfold L30_0 loopAt S03.c30 Tryd.f30; simp only [loopIn, Option.getD_some, if_true]
      simp only [go_sem, he1]
      exact hb1
    · intro K1 k1 i1 x1 s1 n1 hR1 hE1 hb1 hx1 hi1 hw1 ih1 h
      try dsimp only at h ⊢
      conv => arg 1; arg 7; unfold L30_0 loopAt S03.c30 Tryd.f30; simp only [loopIn, Option.getD_some, if_true]
      obtain ⟨v4, e_v4, h⟩ := ob h
      obtain ⟨v5, e_v5, h⟩ := ob h
      obtain ⟨e_v5a, e_v5b⟩ := idx_some e_v5
      by_cases c2 : v5 = true
      · have h := iteT h c2
        obtain ⟨v6, e_v6, h⟩ := ob h
        have e_v6c : call Tryd.prog T H (.fn 70) [.p (.agg [iv a1.States, .sl none 1 (List.map rowI a1.Final), .sl none 3 (List.map row_Rule a1.Rules)]), .p (.sl none 1 (List.map (rowL 1 rowI) v2)), .p (.agg [iv a2.Sym, .sl none 2 (List.map row_Tree a2.Kids)]), .p (.sl none 1 (List.map (rowL 1 rowB) v3)), .p (iv 0), .p (iv x1), .own 1 []] [] = some (.ret (.own 1 (List.map rowI v6)), []) := spec70 n a1 v2 a2 v3 0 x1 ([] : List Int) v6 e_v6
        simp only [go_sem, hx1, hi1, hw1, e_v4, e_v5a, e_v5b, c2, e_v6c, hR1, hE1]
        injection h with h; subst h
        exact Sat.ok hQ
      · have h := iteF h c2
        have c2 := eq_false_of_ne_true c2
        simp only [go_sem, hx1, hi1, hw1, e_v4, e_v5a, e_v5b, c2, hR1, hE1]
        exact ih1 () h
  · have h := iteF h c1
    have c1b : (v1 != 0) = true := bneT c1
    simp only [go_sem, e_v1c, c1b]
    injection h with h; subst h
    exact Sat.ok hQ

def law03_AutoRuns (n : Nat) (a0 : Alphabet) (a1 : Automaton) (a2 : Tree) (a3 : List Int) : Option Bool :=
  (law03_few n a0 a1 [a2]).bind fun v1 =>
  if v1 = true then
    if 400 < (a3.length : Int) then
      (law03_awake n).bind fun v2 =>
      some v2
    else
      (auto_Check n a0 a1 a2 a3).bind fun v3 =>
      (ref03_Check n a0 a1 a2 a3).bind fun v4 =>
      if v3.1 = v4.1 then
        if v3.2 = v4.2 then
          (auto_Run n a0 a1 a2).bind fun v5 =>
          if v4.2 = 0 then
            (ref03_Has n a1 a2).bind fun v6 =>
            if v6 = true then
              (auto_Check n a0 a1 a2 v5.1).bind fun v7 =>
              if v5.2 = 0 then
                (ref03_IsRun n a1 a2 v5.1).bind fun v8 =>
                if v8 = true then
                  if v7.2 = 0 then
                    if v7.1 = true then
                      (law03_awake n).bind fun v9 =>
                      some v9
                    else
                      some false
                  else
                    some false
                else
                  some false
              else
                some false
            else
              if v5.2 = 8 then
                (law03_awake n).bind fun v10 =>
                some v10
              else
                some false
          else
            if v5.2 = v4.2 then
              (law03_awake n).bind fun v11 =>
              some v11
            else
              some false
        else
          some false
      else
        some false
  else
    (law03_awake n).bind fun v12 =>
    some v12
theorem spec6 (n : Nat) (a0 : Alphabet) (a1 : Automaton) (a2 : Tree) (a3 : List Int) (r : Bool) (h : law03_AutoRuns n a0 a1 a2 a3 = some r) :
    call Tryd.prog T H (.fn 6) [.p (.agg [.sl none 1 (List.map rowI a0.Ranks)]), .p (.agg [iv a1.States, .sl none 1 (List.map rowI a1.Final), .sl none 3 (List.map row_Rule a1.Rules)]), .p (.agg [iv a2.Sym, .sl none 2 (List.map row_Tree a2.Kids)]), .p (.sl none 1 (List.map rowI a3))] [] = some (.ret (.p (bv r)), []) := by
  refine Sat.fn fun Q hQ => ?_
  unfold law03_AutoRuns at h
  rw [call6]
  conv => arg 1; arg 7; unfold S03.c6 Tryd.f6; simp only [Option.getD_some]
  obtain ⟨v1, e_v1, h⟩ := ob h
  have e_v1c : call Tryd.prog T H (.fn 9) [.p (.agg [.sl none 1 (List.map rowI a0.Ranks)]), .p (.agg [iv a1.States, .sl none 1 (List.map rowI a1.Final), .sl none 3 (List.map row_Rule a1.Rules)]), .p (.sl none 2 [[iv a2.Sym, .sl none 2 (List.map row_Tree a2.Kids)]])] [] = some (.ret (.p (bv v1)), []) := by have q := spec9 n a0 a1 [a2] v1 e_v1; simp only [List.map_cons, List.map_nil, row_Tree_eq] at q ⊢; exact q
  by_cases c1 : v1 = true
  · have h := iteT h c1
    by_cases c2 : 400 < (a3.length : Int)
    · have h := iteT h c2
      obtain ⟨v2, e_v2, h⟩ := ob h
      have e_v2c : call Tryd.prog T H (.fn 10) [] [] = some (.ret (.p (bv v2)), []) := spec10 n v2 e_v2
      simp only [go_sem, e_v1c, c1, c2, e_v2c]
      injection h with h; subst h
      exact Sat.ok hQ
    · have h := iteF h c2
      obtain ⟨v3, e_v3, h⟩ := ob h
      have e_v3c : call Tryd.prog T H (.fn 28) [.p (.agg [.sl none 1 (List.map rowI a0.Ranks)]), .p (.agg [iv a1.States, .sl none 1 (List.map rowI a1.Final), .sl none 3 (List.map row_Rule a1.Rules)]), .p (.agg [iv a2.Sym, .sl none 2 (List.map row_Tree a2.Kids)]), .p (.sl none 1 (List.map rowI a3))] [] = some (.ret (.p (.tup [bv v3.1, iv v3.2])), []) := spec28 n a0 a1 a2 a3 v3 e_v3
      obtain ⟨v4, e_v4, h⟩ := ob h
      have e_v4c : call Tryd.prog T H (.fn 29) [.p (.agg [.sl none 1 (List.map rowI a0.Ranks)]), .p (.agg [iv a1.States, .sl none 1 (List.map rowI a1.Final), .sl none 3 (List.map row_Rule a1.Rules)]), .p (.agg [iv a2.Sym, .sl none 2 (List.map row_Tree a2.Kids)]), .p (.sl none 1 (List.map rowI a3))] [] = some (.ret (.p (.tup [bv v4.1, iv v4.2])), []) := spec29 n a0 a1 a2 a3 v4 e_v4
      by_cases c3 : v3.1 = v4.1
      · have h := iteT h c3
        have c3b : (v3.1 != v4.1) = false := bneF c3
        by_cases c4 : v3.2 = v4.2
        · have h := iteT h c4
          have c4b : (v3.2 != v4.2) = false := bneF c4
          obtain ⟨v5, e_v5, h⟩ := ob h
          have e_v5c : call Tryd.prog T H (.fn 30) [.p (.agg [.sl none 1 (List.map rowI a0.Ranks)]), .p (.agg [iv a1.States, .sl none 1 (List.map rowI a1.Final), .sl none 3 (List.map row_Rule a1.Rules)]), .p (.agg [iv a2.Sym, .sl none 2 (List.map row_Tree a2.Kids)])] [] = some (.ret (.p (.tup [.sl none 1 (List.map rowI v5.1), iv v5.2])), []) := spec30 n a0 a1 a2 v5 e_v5
          by_cases c5 : v4.2 = 0
          · have h := iteT h c5
            have c5b : (v4.2 != 0) = false := bneF c5
            obtain ⟨v6, e_v6, h⟩ := ob h
            have e_v6c : call Tryd.prog T H (.fn 24) [.p (.agg [iv a1.States, .sl none 1 (List.map rowI a1.Final), .sl none 3 (List.map row_Rule a1.Rules)]), .p (.agg [iv a2.Sym, .sl none 2 (List.map row_Tree a2.Kids)])] [] = some (.ret (.p (bv v6)), []) := spec24 n a1 a2 v6 e_v6
            by_cases c6 : v6 = true
            · have h := iteT h c6
              obtain ⟨v7, e_v7, h⟩ := ob h
              have e_v7c : call Tryd.prog T H (.fn 28) [.p (.agg [.sl none 1 (List.map rowI a0.Ranks)]), .p (.agg [iv a1.States, .sl none 1 (List.map rowI a1.Final), .sl none 3 (List.map row_Rule a1.Rules)]), .p (.agg [iv a2.Sym, .sl none 2 (List.map row_Tree a2.Kids)]), .p (.sl none 1 (List.map rowI v5.1))] [] = some (.ret (.p (.tup [bv v7.1, iv v7.2])), []) := spec28 n a0 a1 a2 v5.1 v7 e_v7
              by_cases c7 : v5.2 = 0
              · have h := iteT h c7
                have c7b : (v5.2 == 0) = true := beqT c7
                obtain ⟨v8, e_v8, h⟩ := ob h
                have e_v8c : call Tryd.prog T H (.fn 31) [.p (.agg [iv a1.States, .sl none 1 (List.map rowI a1.Final), .sl none 3 (List.map row_Rule a1.Rules)]), .p (.agg [iv a2.Sym, .sl none 2 (List.map row_Tree a2.Kids)]), .p (.sl none 1 (List.map rowI v5.1))] [] = some (.ret (.p (bv v8)), []) := spec31 n a1 a2 v5.1 v8 e_v8
                by_cases c8 : v8 = true
                · have h := iteT h c8
                  by_cases c9 : v7.2 = 0
                  · have h := iteT h c9
                    have c9b : (v7.2 == 0) = true := beqT c9
                    by_cases c10 : v7.1 = true
                    · have h := iteT h c10
                      obtain ⟨v9, e_v9, h⟩ := ob h
                      have e_v9c : call Tryd.prog T H (.fn 10) [] [] = some (.ret (.p (bv v9)), []) := spec10 n v9 e_v9
                      simp only [go_sem, e_v1c, c1, c2, e_v3c, e_v4c, c3b, c4b, e_v5c, c5b, e_v6c, c6, e_v7c, c7b, e_v8c, c8, c9b, c10, e_v9c]
                      injection h with h; subst h
                      exact Sat.ok hQ
                    · have h := iteF h c10
                      have c10 := eq_false_of_ne_true c10
                      simp only [go_sem, e_v1c, c1, c2, e_v3c, e_v4c, c3b, c4b, e_v5c, c5b, e_v6c, c6, e_v7c, c7b, e_v8c, c8, c9b, c10]
                      injection h with h; subst h
                      exact Sat.ok hQ
                  · have h := iteF h c9
                    have c9b : (v7.2 == 0) = false := beqF c9
                    simp only [go_sem, e_v1c, c1, c2, e_v3c, e_v4c, c3b, c4b, e_v5c, c5b, e_v6c, c6, e_v7c, c7b, e_v8c, c8, c9b]
                    injection h with h; subst h
                    exact Sat.ok hQ
                · have h := iteF h c8
                  have c8 := eq_false_of_ne_true c8
                  simp only [go_sem, e_v1c, c1, c2, e_v3c, e_v4c, c3b, c4b, e_v5c, c5b, e_v6c, c6, e_v7c, c7b, e_v8c, c8]
                  injection h with h; subst h
                  exact Sat.ok hQ
              · have h := iteF h c7
                have c7b : (v5.2 == 0) = false := beqF c7
                simp only [go_sem, e_v1c, c1, c2, e_v3c, e_v4c, c3b, c4b, e_v5c, c5b, e_v6c, c6, e_v7c, c7b]
                injection h with h; subst h
                exact Sat.ok hQ
            · have h := iteF h c6
              have c6 := eq_false_of_ne_true c6
              by_cases c11 : v5.2 = 8
              · have h := iteT h c11
                have c11b : (v5.2 == 8) = true := beqT c11
                obtain ⟨v10, e_v10, h⟩ := ob h
                have e_v10c : call Tryd.prog T H (.fn 10) [] [] = some (.ret (.p (bv v10)), []) := spec10 n v10 e_v10
                simp only [go_sem, e_v1c, c1, c2, e_v3c, e_v4c, c3b, c4b, e_v5c, c5b, e_v6c, c6, c11b, e_v10c]
                injection h with h; subst h
                exact Sat.ok hQ
              · have h := iteF h c11
                have c11b : (v5.2 == 8) = false := beqF c11
                simp only [go_sem, e_v1c, c1, c2, e_v3c, e_v4c, c3b, c4b, e_v5c, c5b, e_v6c, c6, c11b]
                injection h with h; subst h
                exact Sat.ok hQ
          · have h := iteF h c5
            have c5b : (v4.2 != 0) = true := bneT c5
            by_cases c12 : v5.2 = v4.2
            · have h := iteT h c12
              have c12b : (v5.2 == v4.2) = true := beqT c12
              obtain ⟨v11, e_v11, h⟩ := ob h
              have e_v11c : call Tryd.prog T H (.fn 10) [] [] = some (.ret (.p (bv v11)), []) := spec10 n v11 e_v11
              simp only [go_sem, e_v1c, c1, c2, e_v3c, e_v4c, c3b, c4b, e_v5c, c5b, c12b, e_v11c]
              injection h with h; subst h
              exact Sat.ok hQ
            · have h := iteF h c12
              have c12b : (v5.2 == v4.2) = false := beqF c12
              simp only [go_sem, e_v1c, c1, c2, e_v3c, e_v4c, c3b, c4b, e_v5c, c5b, c12b]
              injection h with h; subst h
              exact Sat.ok hQ
        · have h := iteF h c4
          have c4b : (v3.2 != v4.2) = true := bneT c4
          simp only [go_sem, e_v1c, c1, c2, e_v3c, e_v4c, c3b, c4b]
          injection h with h; subst h
          exact Sat.ok hQ
      · have h := iteF h c3
        have c3b : (v3.1 != v4.1) = true := bneT c3
        simp only [go_sem, e_v1c, c1, c2, e_v3c, e_v4c, c3b]
        injection h with h; subst h
        exact Sat.ok hQ
  · have h := iteF h c1
    have c1 := eq_false_of_ne_true c1
    obtain ⟨v12, e_v12, h⟩ := ob h
    have e_v12c : call Tryd.prog T H (.fn 10) [] [] = some (.ret (.p (bv v12)), []) := spec10 n v12 e_v12
    simp only [go_sem, e_v1c, c1, e_v12c]
    injection h with h; subst h
    exact Sat.ok hQ

end Go.AM.S03

namespace Go.AM.S03
open Go Go.Proofs Go.AM
set_option linter.unusedVariables false
theorem w64_eq {n : Int} (h1 : -9223372036854775808 ≤ n) (h2 : n ≤ 9223372036854775807) : w64 n = n := wrapN h1 h2
theorem app_ok {α : Type} {b : Nat} {xs ys : List α} (h : (xs.length + ys.length) * b ≤ 70368744177664) : app b xs ys = some (xs ++ ys) := if_pos h
mutual
def tsT : Tree → Nat
  | .mk _ k => 1 + tsL k
def tsL : List Tree → Nat
  | [] => 0
  | x :: r => tsT x + tsL r
end
mutual
def tdT : Tree → Nat
  | .mk _ k => tdL k
def tdL : List Tree → Nat
  | [] => 0
  | x :: r => max (tdT x + 1) (tdL r)
end
mutual
def twT : Tree → Bool
  | .mk _ k => decide (k.length < 9223372036854775808) && twL k
def twL : List Tree → Bool
  | [] => true
  | x :: r => twT x && twL r
end
theorem tsT_eq (t : Tree) : tsT t = 1 + tsL t.Kids := by cases t; rw [tsT]
theorem tdT_eq (t : Tree) : tdT t = tdL t.Kids := by cases t; rw [tdT]
theorem twT_eq (t : Tree) : twT t = (decide (t.Kids.length < 9223372036854775808) && twL t.Kids) := by cases t; rw [twT]
theorem tlen : ∀ l : List Tree, l.length ≤ tsL l
  | [] => Nat.zero_le _
  | x :: r => by rw [tsL, List.length_cons, tsT_eq]; have := tlen r; omega
theorem tdL_cons {x : Tree} {r : List Tree} {n : Nat} (h : tdL (x :: r) < n + 1) : tdT x < n ∧ tdL r < n + 1 := by rw [tdL] at h; omega
theorem tcount_eq : ∀ (n : Nat) (t : Tree) (m : Int), tdT t < n → twT t = true → 0 ≤ m → m ≤ 1000000 → ref01_count n t m = some (min (tsT t : Int) (m + 1)) := by
  intro n
  induction n with
  | zero => intro t m hd; omega
  | succ n ih =>
    intro t m hd hw h1 h2
    rw [twT_eq] at hw
    simp only [Bool.and_eq_true, decide_eq_true_eq] at hw
    rw [tdT_eq] at hd
    rw [ref01_count, rangeL, if_pos hw.1]
    suffices H : ∀ (l : List Tree) (i : Nat) (c : Nat) (k : Int → Option Int), 1 ≤ c → tdL l < n + 1 → twL l = true → rangeC (fun i1 x1 (s1 : Int) n1 => if s1 ≤ m then (ref01_count n x1 (w64 (m - s1))).bind fun v1 => n1 (w64 (s1 + v1)) else n1 s1) l i (min (c : Int) (m + 1)) k = k (min ((c + tsL l : Nat) : Int) (m + 1)) by
      have := H t.Kids 0 1 (fun s => some s) (by omega) hd hw.2
      rw [show min ((1 : Nat) : Int) (m + 1) = 1 by omega] at this
      rw [this, tsT_eq]
    intro l
    induction l with
    | nil => intro i c k _ _ _; rw [rangeC, tsL]; rfl
    | cons x r ihr =>
      intro i c k hc hd hw
      obtain ⟨d1, d2⟩ := tdL_cons hd
      rw [twL, Bool.and_eq_true] at hw
      rw [rangeC]
      by_cases cc : min (c : Int) (m + 1) ≤ m
      · rw [if_pos cc]
        have e : min (c : Int) (m + 1) = c := by omega
        rw [e, w64_eq (n := m - c) (by omega) (by omega), ih x _ d1 hw.1 (by omega) (by omega)]
        show rangeC _ r (i + 1) (w64 (c + min (tsT x : Int) (m - c + 1))) k = _
        rw [w64_eq (by omega) (by omega)]
        have := ihr (i + 1) (c + tsT x) k (by omega) d2 hw.2
        rw [show (c : Int) + min (tsT x : Int) (m - c + 1) = min ((c + tsT x : Nat) : Int) (m + 1) by omega, this, tsL]
        congr 2; omega
      · rw [if_neg cc]
        show rangeC _ r (i + 1) (min (c : Int) (m + 1)) k = _
        have := ihr (i + 1) (c + tsT x) k (by omega) d2 hw.2
        rw [show min (c : Int) (m + 1) = min ((c + tsT x : Nat) : Int) (m + 1) by omega, this, tsL]
        congr 2; omega
theorem tfew_eq {n : Nat} {t : Tree} {m : Int} (hd : tdT t < n) (hw : twT t = true) (h1 : 0 ≤ m) (h2 : m ≤ 1000000) : ref01_Few n t m = some (decide ((tsT t : Int) ≤ m)) := by
  rw [ref01_Few, tcount_eq n t m hd hw h1 h2]
  show some _ = some _
  congr 1
  exact decide_eq_decide.2 (by omega)
theorem tree_Size_eq : ∀ (n : Nat) (t : Tree), tdT t < n → tsT t ≤ 1000000 → tree_Size n t = some (tsT t : Int) := by
  intro n
  induction n with
  | zero => intro t hd; omega
  | succ n ih =>
    intro t hd hs
    rw [tdT_eq] at hd
    have hlen := tlen t.Kids
    rw [tsT_eq] at hs
    rw [tree_Size, rangeL, if_pos (by omega)]
    suffices H : ∀ (l : List Tree) (i : Nat) (s : Int) (k : Int → Option Int), tdL l < n + 1 → 1 ≤ s → s + tsL l ≤ 1000001 → rangeC (fun i1 x1 (s1 : Int) n1 => (tree_Size n x1).bind fun v1 => n1 (w64 (s1 + v1))) l i s k = k (s + tsL l) by
      rw [H t.Kids 0 1 _ hd (by omega) (by omega), tsT_eq]
      congr 1
    intro l
    induction l with
    | nil => intro i s k _ _ _; rw [rangeC, tsL]; congr 1; simp
    | cons x r ihr =>
      intro i s k hd h0 h1
      obtain ⟨d1, d2⟩ := tdL_cons hd
      rw [tsL] at h1
      rw [rangeC, ih x d1 (by omega)]
      simp only [Option.bind_some]
      rw [w64_eq (by omega) (by omega), ihr _ _ _ d2 (by omega) (by omega), tsL]
      congr 1; omega
theorem ref01_Size_eq : ∀ (n : Nat) (t : Tree), tdT t < n → tsT t ≤ 1000000 → ref01_Size n t = some (tsT t : Int) := by
  intro n
  induction n with
  | zero => intro t hd; omega
  | succ n ih =>
    intro t hd hs
    rw [tdT_eq] at hd
    have hlen := tlen t.Kids
    rw [tsT_eq] at hs
    rw [ref01_Size, rangeL, if_pos (by omega)]
    suffices H : ∀ (l : List Tree) (i : Nat) (s : Int) (k : Int → Option Int), tdL l < n + 1 → 1 ≤ s → s + tsL l ≤ 1000001 → rangeC (fun i1 x1 (s1 : Int) n1 => (ref01_Size n x1).bind fun v1 => n1 (w64 (s1 + v1))) l i s k = k (s + tsL l) by
      rw [H t.Kids 0 1 _ hd (by omega) (by omega), tsT_eq]
      congr 1
    intro l
    induction l with
    | nil => intro i s k _ _ _; rw [rangeC, tsL]; congr 1; simp
    | cons x r ihr =>
      intro i s k hd h0 h1
      obtain ⟨d1, d2⟩ := tdL_cons hd
      rw [tsL] at h1
      rw [rangeC, ih x d1 (by omega)]
      simp only [Option.bind_some]
      rw [w64_eq (by omega) (by omega), ihr _ _ _ d2 (by omega) (by omega), tsL]
      congr 1; omega
mutual
theorem td_le : ∀ t : Tree, tdT t + 1 ≤ tsT t
  | .mk s k => by rw [tdT, tsT]; have := tdL_le k; omega
theorem tdL_le : ∀ l : List Tree, tdL l ≤ tsL l
  | [] => by rw [tdL, tsL]; exact Nat.le_refl _
  | x :: r => by rw [tdL, tsL]; have := td_le x; have := tdL_le r; omega
end
def rk (r : List Int) (s : Int) : Int := (r[s.toNat]?).getD 0
theorem rk_get {r : List Int} {s : Int} (h0 : 0 ≤ s) (h1 : s < r.length) : idx r s = some (rk r s) := by
  unfold idx rk
  rw [if_pos h0, List.getElem?_eq_getElem (by omega)]; rfl
mutual
def shT (r : List Int) : Tree → Bool
  | .mk s k => decide (0 ≤ s ∧ s < r.length ∧ (k.length : Int) = rk r s) && shL r k
def shL (r : List Int) : List Tree → Bool
  | [] => true
  | x :: q => shT r x && shL r q
end
theorem shT_eq (r : List Int) (t : Tree) : shT r t = (decide (0 ≤ t.Sym ∧ t.Sym < r.length ∧ (t.Kids.length : Int) = rk r t.Sym) && shL r t.Kids) := by cases t; rw [shT]
theorem tw_out {t : Tree} (h : twT t = true) : t.Kids.length < 9223372036854775808 ∧ twL t.Kids = true := by
  rw [twT_eq] at h; simpa only [Bool.and_eq_true, decide_eq_true_eq] using h
theorem tw_cons {x : Tree} {q : List Tree} (h : twL (x :: q) = true) : twT x = true ∧ twL q = true := by
  rw [twL] at h; simpa only [Bool.and_eq_true] using h
theorem tformed_eq (r : List Int) : ∀ (n : Nat) (t : Tree) (m : Int), tdT t < n → twT t = true → 0 ≤ m → m ≤ 1000000 →
    (((tsT t : Int) ≤ m ∧ shT r t = true) ∧ tree_formed n ⟨r⟩ t m = some (true, m - tsT t)) ∨ (¬ ((tsT t : Int) ≤ m ∧ shT r t = true) ∧ ∃ v, tree_formed n ⟨r⟩ t m = some (false, v)) := by
  intro n
  induction n with
  | zero => intro t m hd; omega
  | succ n ih =>
    intro t m hd hw h1 h2
    obtain ⟨w1, w2⟩ := tw_out hw
    rw [tree_formed, shT_eq, tsT_eq]
    simp only [Bool.and_eq_true, decide_eq_true_eq]
    have e1 : w64 (m - 1) = m - 1 := w64_eq (by omega) (by omega)
    rw [e1]
    by_cases c1 : m - 1 < 0
    · exact .inr ⟨by omega, _, by rw [if_pos c1]⟩
    rw [if_neg c1]
    by_cases c2 : t.Sym < 0
    · exact .inr ⟨by omega, _, by rw [if_pos c2]⟩
    rw [if_neg c2]
    by_cases c3 : (r.length : Int) ≤ t.Sym
    · exact .inr ⟨by omega, _, by rw [if_pos c3]⟩
    rw [if_neg c3, rk_get (by omega) (by omega)]
    simp only [Option.bind_some]
    by_cases c4 : (t.Kids.length : Int) = rk r t.Sym
    · rw [if_pos c4]
      rw [rangeL, if_pos w1]
      rw [tdT_eq] at hd
      suffices H : ∀ (l : List Tree) (i : Nat) (s : Int), tdL l < n + 1 → twL l = true → 0 ≤ s → s ≤ 1000000 →
        (((tsL l : Int) ≤ s ∧ shL r l = true) ∧ ∀ k : Int → Option (Bool × Int), rangeC (fun i1 x1 (s1 : Int) n1 => (tree_formed n ⟨r⟩ x1 s1).bind fun v2 => if v2.1 = true then n1 v2.2 else some (false, v2.2)) l i s k = k (s - tsL l)) ∨
        (¬ ((tsL l : Int) ≤ s ∧ shL r l = true) ∧ ∃ v, ∀ k : Int → Option (Bool × Int), rangeC (fun i1 x1 (s1 : Int) n1 => (tree_formed n ⟨r⟩ x1 s1).bind fun v2 => if v2.1 = true then n1 v2.2 else some (false, v2.2)) l i s k = some (false, v)) by
        rcases H t.Kids 0 (m - 1) hd w2 (by omega) (by omega) with ⟨c, e⟩ | ⟨c, v, e⟩
        · exact .inl ⟨⟨by omega, ⟨by omega, by omega, c4⟩, c.2⟩, by rw [e]; congr 2; omega⟩
        · exact .inr ⟨fun hh => c ⟨by omega, hh.2.2⟩, v, e _⟩
      intro l
      induction l with
      | nil => intro i s _ _ h1 h2; exact .inl ⟨⟨by rw [tsL]; exact h1, by rw [shL]⟩, fun k => by rw [rangeC, tsL]; congr 1; simp⟩
      | cons x q ihr =>
        intro i s hd hw h1 h2
        obtain ⟨d1, d2⟩ := tdL_cons hd
        obtain ⟨v1, v2⟩ := tw_cons hw
        rw [tsL, shL]
        simp only [Bool.and_eq_true, rangeC]
        rcases ih x s d1 v1 h1 h2 with ⟨c, e⟩ | ⟨c, v, e⟩
        · rcases ihr (i + 1) (s - tsT x) d2 v2 (by omega) (by omega) with ⟨c', e'⟩ | ⟨c', v, e'⟩
          · exact .inl ⟨⟨by omega, c.2, c'.2⟩, fun k => by rw [e]; simp only [Option.bind_some, if_true]; rw [e' k]; congr 1; omega⟩
          · exact .inr ⟨fun hh => c' ⟨by omega, hh.2.2⟩, v, fun k => by rw [e]; simp only [Option.bind_some, if_true]; rw [e' k]⟩
        · exact .inr ⟨fun hh => c ⟨by omega, hh.2.1⟩, v, fun k => by rw [e]; rfl⟩
    · rw [if_neg c4]
      exact .inr ⟨fun hh => c4 hh.2.1.2.2, _, rfl⟩
theorem shaped_eq (r : List Int) : ∀ (n : Nat) (t : Tree), tdT t < n → twT t = true → ref01_shaped n ⟨r⟩ t = some (shT r t) := by
  intro n
  induction n with
  | zero => intro t hd; omega
  | succ n ih =>
    intro t hd hw
    obtain ⟨w1, w2⟩ := tw_out hw
    rw [ref01_shaped, shT_eq]
    by_cases c2 : t.Sym < 0
    · rw [if_pos c2, decide_eq_false (by omega)]; rfl
    rw [if_neg c2]
    by_cases c3 : (r.length : Int) ≤ t.Sym
    · simp only [] at c3 ⊢
      rw [if_pos c3, decide_eq_false (by omega)]; rfl
    have c3' : ¬ (r.length : Int) ≤ t.Sym := c3
    rw [if_neg c3, show idx (Alphabet.mk r).Ranks t.Sym = some (rk r t.Sym) from rk_get (r := r) (Int.not_lt.1 c2) (Int.not_le.1 c3')]
    simp only [Option.bind_some]
    by_cases c4 : (t.Kids.length : Int) = rk r t.Sym
    · rw [if_pos c4, rangeL, if_pos w1, decide_eq_true ⟨Int.not_lt.1 c2, Int.not_le.1 c3', c4⟩, Bool.true_and]
      rw [tdT_eq] at hd
      suffices H : ∀ (l : List Tree) (i : Nat), tdL l < n + 1 → twL l = true → rangeC (fun i1 x1 (s1 : Unit) n1 => (ref01_shaped n ⟨r⟩ x1).bind fun v2 => if v2 = true then n1 () else some false) l i () (fun _ => some true) = some (shL r l) from H t.Kids 0 hd w2
      intro l
      induction l with
      | nil => intro i _ _; rw [rangeC, shL]
      | cons x q ihr =>
        intro i hd hw
        obtain ⟨d1, d2⟩ := tdL_cons hd
        obtain ⟨v1, v2⟩ := tw_cons hw
        rw [rangeC, ih x d1 v1, shL]
        simp only [Option.bind_some]
        cases shT r x with
        | true => rw [if_pos rfl, ihr (i + 1) d2 v2]; rfl
        | false => rfl
    · rw [if_neg c4, decide_eq_false (fun hh => c4 hh.2.2)]; rfl
def vA (r : List Int) : Bool := decide (r.length ≤ 12) && r.all fun x => decide (0 ≤ x ∧ x ≤ 3)
theorem hvA (r : List Int) : tree_ValidAlphabet ⟨r⟩ = some (vA r) := by
  unfold tree_ValidAlphabet vA
  simp only []
  by_cases c : (r.length : Int) ≤ 12
  · rw [if_pos c, decide_eq_true (by omega : r.length ≤ 12), Bool.true_and]
    simp only [jn]
    rw [rangeL, if_pos (by omega)]
    suffices H : ∀ (l : List Int) (i : Nat), rangeC (fun i1 (x1 : Int) (s1 : Unit) n1 => (tree_ValidAlphabet_1 x1).bind fun v1 => if v1 = true then some (!decide ((0 : Int) ≤ (i1 : Int))) else n1 ()) l i () (fun _ => some (!decide ((0 : Int) ≤ -1))) = some (l.all fun x => decide (0 ≤ x ∧ x ≤ 3)) from H r 0
    intro l
    induction l with
    | nil => intro i; rw [rangeC]; rfl
    | cons x q ih =>
      intro i
      rw [rangeC, List.all_cons]
      unfold tree_ValidAlphabet_1
      by_cases c1 : x < 0
      · rw [if_pos c1, decide_eq_false (by omega : ¬ (0 ≤ x ∧ x ≤ 3))]
        simp only [Option.bind_some, if_true]
        rw [decide_eq_true (by omega : (0 : Int) ≤ (i : Int))]; rfl
      · rw [if_neg c1]
        simp only [Option.bind_some]
        by_cases c2 : 3 < x
        · rw [decide_eq_true c2, decide_eq_false (by omega : ¬ (0 ≤ x ∧ x ≤ 3)), if_pos rfl, decide_eq_true (by omega : (0 : Int) ≤ (i : Int))]; rfl
        · rw [decide_eq_false c2, decide_eq_true (by omega : 0 ≤ x ∧ x ≤ 3), if_neg (by decide), Bool.true_and]
          exact ih (i + 1)
  · rw [if_neg c, decide_eq_false (by omega : ¬ r.length ≤ 12)]; rfl
theorem rvA (r : List Int) : ref01_ValidAlphabet ⟨r⟩ = some (vA r) := by
  unfold ref01_ValidAlphabet vA
  simp only []
  by_cases c : 12 < (r.length : Int)
  · rw [if_pos c, decide_eq_false (by omega : ¬ r.length ≤ 12)]; rfl
  · rw [if_neg c, decide_eq_true (by omega : r.length ≤ 12), Bool.true_and, rangeL, if_pos (by omega)]
    suffices H : ∀ (l : List Int) (i : Nat), rangeC (fun i1 (x1 : Int) (s1 : Unit) n1 => if x1 < 0 then some false else if 3 < x1 then some false else n1 ()) l i () (fun _ => some true) = some (l.all fun x => decide (0 ≤ x ∧ x ≤ 3)) from H r 0
    intro l
    induction l with
    | nil => intro i; rw [rangeC]; rfl
    | cons x q ih =>
      intro i
      rw [rangeC, List.all_cons]
      by_cases c1 : x < 0
      · rw [if_pos c1, decide_eq_false (by omega : ¬ (0 ≤ x ∧ x ≤ 3))]; rfl
      · rw [if_neg c1]
        by_cases c2 : 3 < x
        · rw [if_pos c2, decide_eq_false (by omega : ¬ (0 ≤ x ∧ x ≤ 3))]; rfl
        · rw [if_neg c2, decide_eq_true (by omega : 0 ≤ x ∧ x ≤ 3), Bool.true_and]
          exact ih (i + 1)
def tvld (r : List Int) (t : Tree) : Bool := vA r && (decide ((tsT t : Int) ≤ 300) && shT r t)
theorem tvalid_eq (r : List Int) {n : Nat} {t : Tree} (hd : tdT t < n) (hw : twT t = true) : tree_Valid n ⟨r⟩ t = some (tvld r t) := by
  unfold tree_Valid tvld
  rw [hvA]
  simp only [Option.bind_some]
  cases vA r with
  | false => rfl
  | true =>
    rw [if_pos rfl, Bool.true_and]
    rcases tformed_eq r n t 300 hd hw (by omega) (by omega) with ⟨c, e⟩ | ⟨c, v, e⟩
    · rw [e, decide_eq_true c.1, c.2]; rfl
    · rw [e]
      simp only [Option.bind_some]
      congr 1
      cases h1 : shT r t with
      | false => simp
      | true => rw [decide_eq_false (fun h2 => c ⟨h2, h1⟩)]; rfl
theorem rtvalid_eq (r : List Int) {n : Nat} {t : Tree} (hd : tdT t < n) (hw : twT t = true) : ref01_Valid n ⟨r⟩ t = some (tvld r t) := by
  unfold ref01_Valid tvld
  rw [rvA]
  simp only [Option.bind_some]
  cases vA r with
  | false => rfl
  | true =>
    rw [if_pos rfl, Bool.true_and, tfew_eq hd hw (by omega) (by omega)]
    simp only [Option.bind_some]
    by_cases c3 : (tsT t : Int) ≤ 300
    · rw [decide_eq_true c3, if_pos rfl, shaped_eq r n t hd hw]; rfl
    · rw [decide_eq_false c3]; rfl
set_option linter.unusedVariables false
mutual
theorem twT_of : ∀ t : Tree, tsT t < 9223372036854775808 → twT t = true
  | .mk s k, h => by
    rw [tsT] at h
    have := tlen k
    rw [twT, decide_eq_true (by omega), twL_of k (by omega)]; rfl
theorem twL_of : ∀ l : List Tree, tsL l < 9223372036854775808 → twL l = true
  | [], _ => by rw [twL]
  | x :: r, h => by
    rw [tsL] at h
    rw [twL, twT_of x (by omega), twL_of r (by omega)]; rfl
end
set_option linter.unusedVariables false
end Go.AM.S03

