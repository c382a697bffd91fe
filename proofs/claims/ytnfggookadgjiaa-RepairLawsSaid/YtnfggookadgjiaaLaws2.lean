/- What the functions of this seat compute on the abstract machine, function by function, and the plain laws. -/
import Derived.Test.YtnfggookadgjiaaLaws
import Derived.Test.YtnfggookadgjiaaTab
import Derived.Test.YtnfggookadgjiaaAmGen
import Derived.Test.YtnfggookadgjiaaAmEntry
import Derived.Test.YtnfggookadgjiaaAmVal
set_option linter.unusedVariables false
set_option linter.unusedSimpArgs false
namespace Go.AM.S22
set_option maxRecDepth 100000
set_option maxHeartbeats 4000000
set_option linter.unusedVariables false
open Go Go.Proofs Go.AM
namespace Tab
open Go Go.Proofs Go.AM
abbrev TS := PS × repair_table
def stp (n : Nat) (a : Automaton) (w : repair_Weights) (i : Int) (u : Tree) : TS → Option TS
 | (none, tb) => (tabRow0 n a w tb i u).bind fun r => some (some (1, r.1.1, r.1.2), r.2)
 | (some (g, o, l), tb) => (tabRow n a w tb i u o l).bind fun r => some (some (g + 1, r.1.1, r.1.2), r.2)
def zS (σ : List AObj) (s : TS) : List AObj := yS σ (s.1, xc s.2)
structure WF (E : Env) (a : Automaton) (w : repair_Weights) (σ : List AObj) : Prop where
 len : 13 ≤ σ.length
 o1 : σ[1]? = some (.cells [.p (iv a.States), .p (.sl none 1 (List.map rowI a.Final)), .p (.sl none 3 (List.map row_Rule a.Rules))])
 o3 : σ[3]? = some (.cells [.p (iv w.Relabel), .p (iv w.Remove), .p (iv w.Insert)])
 o5 : σ[5]? = some (.cells [.ptr 4 0])
 o9 : σ[9]? = some (.loop 0 none 131 81 E [38, 39] A81_0 B81_0)
 o10 : σ[10]? = some (.cells [.yld 9])
 o12 : σ[12]? = some (.cells [.fn 65 [.ptr 12 0, .ptr 11 0, .ptr 10 0]])
def wS (σ : List AObj) (s : TS × Int) : List AObj := zS (σ.set 11 (.cells [.p (iv s.2)])) s.1
theorem zS_len (σ : List AObj) (s : TS) : (zS σ s).length = σ.length := yS_len σ _
theorem wS_len (σ : List AObj) (s : TS × Int) : (wS σ s).length = σ.length := by unfold wS; rw [zS_len, List.length_set]
theorem wS_get (σ : List AObj) (s : TS × Int) {i : Nat} (h : i ≠ 4 ∧ i ≠ 6 ∧ i ≠ 7 ∧ i ≠ 11) : (wS σ s)[i]? = σ[i]? := by
 unfold wS zS; rw [yS_get _ _ ⟨h.1, h.2.1, h.2.2.1⟩, List.getElem?_set_ne (by omega)]
theorem wS_11 {σ : List AObj} (s : TS × Int) (h : 13 ≤ σ.length) : (wS σ s)[11]? = some (.cells [.p (iv s.2)]) := by
 unfold wS zS; rw [yS_get _ _ (by decide), List.getElem?_set_self (by omega)]
theorem wS_set11 (σ : List AObj) (s : TS × Int) (m : Int) : (wS σ s).set 11 (.cells [.p (iv m)]) = wS σ (s.1, m) := by
 unfold wS zS yS
 simp only []
 rw [List.set_comm _ _ (by decide : 4 ≠ 11), List.set_comm _ _ (by decide : 7 ≠ 11), List.set_comm _ _ (by decide : 6 ≠ 11), List.set_set]
theorem wS_app {σ : List AObj} (s : TS × Int) (h : 13 ≤ σ.length) (l : List AObj) : wS σ s ++ l = wS (σ ++ l) s := by
 unfold wS zS
 rw [yS_app _ (by simp; omega), List.set_append_left _ _ (by omega)]
theorem WF.app {E : Env} {a : Automaton} {w : repair_Weights} {σ : List AObj} (h : WF E a w σ) (l : List AObj) : WF E a w (σ ++ l) where
 len := by rw [List.length_append]; have := h.len; omega
 o1 := by rw [List.getElem?_append_left (by have := h.len; omega)]; exact h.o1
 o3 := by rw [List.getElem?_append_left (by have := h.len; omega)]; exact h.o3
 o5 := by rw [List.getElem?_append_left (by have := h.len; omega)]; exact h.o5
 o9 := by rw [List.getElem?_append_left (by have := h.len; omega)]; exact h.o9
 o10 := by rw [List.getElem?_append_left (by have := h.len; omega)]; exact h.o10
 o12 := by rw [List.getElem?_append_left (by have := h.len; omega)]; exact h.o12
theorem set_back {α : Type} {l : List α} {i : Nat} {a : α} (h : l[i]? = some a) : l.set i a = l := by
 apply List.ext_getElem?
 intro j
 by_cases e : i = j
 ·subst e
  have := (List.getElem?_eq_some_iff.mp h).1
  rw [List.getElem?_set_self this, h]
 ·rw [List.getElem?_set_ne e]
theorem yld_spec {E : Env} (hE5 : get E 5 = .ptr 1 0) (hE7 : get E 7 = .ptr 3 0) (hE12 : get E 12 = .ptr 5 0) (hE13 : get E 13 = .ptr 7 0) (hEl : ∀ t, ltV 9 (get E t) = true) (n : Nat) (a : Automaton) (w : repair_Weights) {σ : List AObj} (wf : WF E a w σ) (u : Tree) (s : TS × Int) (p : TS) (i : Int) (h : stp n a w i u s.1 = some p) (l : List AObj) :
 call Try.prog T H (.yld 9) [.p (iv i), .p (.agg [iv u.Sym, .sl none 2 (List.map row_Tree u.Kids)])] (wS σ s ++ l) = some (.ret (.p (bv true)), wS σ (p, s.2) ++ l) := by
 refine Sat.fn fun Q hQ => ?_
 have hl := wf.len
 have e1 : ∀ q : TS, wS σ (q, s.2) ++ l = zS (σ.set 11 (.cells [.p (iv s.2)]) ++ l) q := fun q => by unfold wS zS; rw [yS_app _ (by simp; omega)]
 have e1s : wS σ s ++ l = zS (σ.set 11 (.cells [.p (iv s.2)]) ++ l) s.1 := e1 s.1
 rw [e1s]
 rw [e1 p] at hQ
 have gg : ∀ i, i ≠ 11 → i < 13 → (σ.set 11 (.cells [.p (iv s.2)]) ++ l)[i]? = σ[i]? := fun i h1 h2 => by rw [List.getElem?_append_left (by simp; omega), List.getElem?_set_ne (Ne.symm h1)]
 have r9 : (σ.set 11 (.cells [.p (iv s.2)]) ++ l)[9]? = some (.loop 0 none 131 81 E [38, 39] A81_0 B81_0) := by rw [gg _ (by decide) (by decide)]; exact wf.o9
 have r1 : (σ.set 11 (.cells [.p (iv s.2)]) ++ l)[1]? = some (.cells [.p (iv a.States), .p (.sl none 1 (List.map rowI a.Final)), .p (.sl none 3 (List.map row_Rule a.Rules))]) := by rw [gg _ (by decide) (by decide)]; exact wf.o1
 have r3 : (σ.set 11 (.cells [.p (iv s.2)]) ++ l)[3]? = some (.cells [.p (iv w.Relabel), .p (iv w.Remove), .p (iv w.Insert)]) := by rw [gg _ (by decide) (by decide)]; exact wf.o3
 have r5 : (σ.set 11 (.cells [.p (iv s.2)]) ++ l)[5]? = some (.cells [.ptr 4 0]) := by rw [gg _ (by decide) (by decide)]; exact wf.o5
 have rl : 10 ≤ (σ.set 11 (.cells [.p (iv s.2)]) ++ l).length := by simp; omega
 generalize σ.set 11 (.cells [.p (iv s.2)]) ++ l = ρ at r9 r1 r3 r5 rl hQ ⊢
 have y9 : ∀ q, (yS ρ q)[9]? = some (.loop 0 none 131 81 E [38, 39] A81_0 B81_0) := fun q => by rw [yS_get _ _ (by decide)]; exact r9
 have a9 : ∀ q k, (yS ρ q ++ k)[9]? = some (.loop 0 none 131 81 E [38, 39] A81_0 B81_0) := fun q k => by rw [List.getElem?_append_left (by rw [yS_len]; omega)]; exact y9 q
 have s9 : ∀ q k, (yS ρ q ++ k).set 9 (.loop 1 none 131 81 E [38, 39] A81_0 B81_0) = yS (ρ.set 9 (.loop 1 none 131 81 E [38, 39] A81_0 B81_0)) q ++ k := fun q k => by
  rw [List.set_append_left _ _ (by rw [yS_len]; omega)]
  unfold yS
  rw [List.set_comm _ _ (by decide : 4 ≠ 9), List.set_comm _ _ (by decide : 7 ≠ 9), List.set_comm _ _ (by decide : 6 ≠ 9)]
 have b9 : ∀ q k, (yS (ρ.set 9 (.loop 1 none 131 81 E [38, 39] A81_0 B81_0)) q ++ k)[9]? = some (.loop 1 none 131 81 E [38, 39] A81_0 B81_0) := fun q k => by
  rw [List.getElem?_append_left (by rw [yS_len, List.length_set]; omega), yS_get _ _ (by decide), List.getElem?_set_self (by omega)]
 have c9 : ∀ q k, (yS (ρ.set 9 (.loop 1 none 131 81 E [38, 39] A81_0 B81_0)) q ++ k).set 9 (.loop 0 none 131 81 E [38, 39] A81_0 B81_0) = yS ρ q ++ k := fun q k => by
  rw [List.set_append_left _ _ (by rw [yS_len, List.length_set]; omega)]
  unfold yS
  rw [List.set_comm _ _ (by decide : 4 ≠ 9), List.set_comm _ _ (by decide : 7 ≠ 9), List.set_comm _ _ (by decide : 6 ≠ 9), List.set_set, set_back r9]
 have t9 : ∀ q k, (yS ρ q ++ k).take ρ.length = yS ρ q := fun q k => by
  rw [← yS_len ρ q, List.take_left']; rfl
 have g0 : ∀ s l, (yS ρ s ++ l)[ρ.length]? = l[0]? := fun s l => sA0 (yS_len ρ s)
 have s0 : ∀ s l y, (yS ρ s ++ l).set ρ.length y = yS ρ s ++ l.set 0 y := fun s l y => sS0 (yS_len ρ s)
 unfold zS
 rw [call_yld (h := y9 _) (hok := yo81_0) (hl := rfl)]
 conv => arg 1; arg 7; unfold A81_0 rangeA S22.c81 Try.f81; simp only [rangeIn, Option.getD_some, if_true]
 simp only [go_sem, asgK, setSt, Option.getD_none, yS_len, g0, s0, a9, s9]
 have lens : (ρ.set 9 (.loop 1 none 131 81 E [38, 39] A81_0 B81_0)).length = ρ.length := List.length_set ..
 have fin : ∀ (q : TS) (env : Env) (loc : List AObj), p = q → Sat (yldK 9 ρ.length (.normal, ⟨env, yS (ρ.set 9 (.loop 1 none 131 81 E [38, 39] A81_0 B81_0)) (q.1, xc q.2) ++ loc, [], none, false⟩)) Q := fun q env loc e => by
  subst e
  rw [yldK_normal 9 ρ.length _ (setSt_eq (b9 _ loc))]
  simp only [Option.getD_some, c9, t9]
  exact Sat.ok hQ
 have o1' : (ρ.set 9 (.loop 1 none 131 81 E [38, 39] A81_0 B81_0))[1]? = some (.cells [.p (iv a.States), .p (.sl none 1 (List.map rowI a.Final)), .p (.sl none 3 (List.map row_Rule a.Rules))]) := by rw [List.getElem?_set_ne (by decide)]; exact r1
 have o3' : (ρ.set 9 (.loop 1 none 131 81 E [38, 39] A81_0 B81_0))[3]? = some (.cells [.p (iv w.Relabel), .p (iv w.Remove), .p (iv w.Insert)]) := by rw [List.getElem?_set_ne (by decide)]; exact r3
 have o5' : (ρ.set 9 (.loop 1 none 131 81 E [38, 39] A81_0 B81_0))[5]? = some (.cells [.ptr 4 0]) := by rw [List.getElem?_set_ne (by decide)]; exact r5
 rcases hs : s.1 with ⟨_ | ⟨g, o, m⟩, tb⟩
 ·rw [hs] at h
  unfold stp at h
  obtain ⟨r, e_r, h⟩ := ob h
  injection h with h
  have q := tabRow0_spec hE5 hE7 hE12 hE13 hEl (σ := ρ.set 9 (.loop 1 none 131 81 E [38, 39] A81_0 B81_0)) (by rw [lens]; exact rl) n a w tb i u o1' o3' o5' r e_r (yldK 9 ρ.length) Q (fun env loc => fin _ env loc h.symm)
  rw [lens] at q
  exact q
 ·rw [hs] at h
  unfold stp at h
  obtain ⟨r, e_r, h⟩ := ob h
  injection h with h
  have q := tabRow_spec hE5 hE7 hE12 hE13 hEl (σ := ρ.set 9 (.loop 1 none 131 81 E [38, 39] A81_0 B81_0)) (by rw [lens]; exact rl) n a w tb i u g o m o1' o3' o5' r e_r (yldK 9 ρ.length) Q (fun env loc => fin _ env loc h.symm)
  rw [lens] at q
  exact q
def walk (n : Nat) (a : Automaton) (w : repair_Weights) : Nat → Tree → TS × Int → Option (TS × Int)
 | 0, _, _ => none
 | k + 1, t, s =>
  rangeL t.Kids s (fun _ _ x1 s1 n1 => (walk n a w k x1 s1).bind fun v => n1 v) fun s1 =>
  (stp n a w (w64 (w64 (s1.2 + 1) - 1)) t s1.1).bind fun p => some (p, w64 (s1.2 + 1))
theorem spec65 {E : Env} (hE5 : get E 5 = .ptr 1 0) (hE7 : get E 7 = .ptr 3 0) (hE12 : get E 12 = .ptr 5 0) (hE13 : get E 13 = .ptr 7 0) (hEl : ∀ t, ltV 9 (get E t) = true) (n : Nat) (a : Automaton) (w : repair_Weights) : ∀ (k : Nat) (σ : List AObj) (wf : WF E a w σ) (t : Tree) (s r : TS × Int), walk n a w k t s = some r →
 call Try.prog T H (.fn 65) [.p (.agg [iv t.Sym, .sl none 2 (List.map row_Tree t.Kids)]), .ptr 12 0, .ptr 11 0, .ptr 10 0] (wS σ s) = some (.ret (.p (bv true)), wS σ r) := by
 intro k
 induction k with
 | zero => intro σ wf t s r h; cases h
 | succ k ih =>
  intro σ wf t s r h
  refine Sat.fn fun Q hQ => ?_
  rw [walk] at h
  have hl := wf.len
  have b11n : ∀ s, (wS σ s)[11]? = some (.cells [.p (iv s.2)]) := fun s => wS_11 _ hl
  have b11 : ∀ s l, (wS σ s ++ l)[11]? = some (.cells [.p (iv s.2)]) := fun s l => by rw [List.getElem?_append_left (by rw [wS_len]; omega), wS_11 _ hl]
  have b10 : ∀ s l, (wS σ s ++ l)[10]? = some (.cells [.yld 9]) := fun s l => by rw [List.getElem?_append_left (by rw [wS_len]; omega), wS_get _ _ (by decide), wf.o10]
  have b12 : ∀ s l, (wS σ s ++ l)[12]? = some (.cells [.fn 65 [.ptr 12 0, .ptr 11 0, .ptr 10 0]]) := fun s l => by rw [List.getElem?_append_left (by rw [wS_len]; omega), wS_get _ _ (by decide), wf.o12]
  have bs11 : ∀ s l m, (wS σ s ++ l).set 11 (.cells [.p (iv m)]) = wS σ (s.1, m) ++ l := fun s l m => by rw [List.set_append_left _ _ (by rw [wS_len]; omega), wS_set11]
  have g0 : ∀ s l, (wS σ s ++ l)[σ.length]? = l[0]? := fun s l => sA0 (wS_len σ s)
  have gk : ∀ s l k, (wS σ s ++ l)[σ.length + k]? = l[k]? := fun s l k => sAK (wS_len σ s)
  have s0 : ∀ s l y, (wS σ s ++ l).set σ.length y = wS σ s ++ l.set 0 y := fun s l y => sS0 (wS_len σ s)
  have sk : ∀ s l y k, (wS σ s ++ l).set (σ.length + k) y = wS σ s ++ l.set k y := fun s l y k => sSK (wS_len σ s)
  have t0 : ∀ s l, (wS σ s ++ l).take σ.length = wS σ s := fun s l => sT0 (wS_len σ s)
  have tk : ∀ s l k, (wS σ s ++ l).take (σ.length + k) = wS σ s ++ l.take k := fun s l k => sTK (wS_len σ s)
  have tx : ∀ s, (wS σ s).take σ.length = wS σ s := fun s => sTX (wS_len σ s)
  have l12 : ∀ k, 12 < σ.length + k ∧ 11 < σ.length + k ∧ 10 < σ.length + k := fun k => by omega
  rw [call65]
  conv => arg 1; arg 7; unfold S22.c65 Try.f65; simp only [Option.getD_some]
  simp only [go_sem, wS_len, b11, b11n, b10, b12, bs11, g0, gk, s0, sk, t0, tk, tx]
  refine run_rangeL (c := L65_0) (live := [1, 2, 3, 4, 9, 10, 11]) (by simp only [go_sem]) (M := fun i1 (s1 : TS × Int) => [(1, .ptr 12 0), (2, .ptr 11 0), (3, .ptr 10 0), (4, .ptr σ.length 0), (9, .p (.sl none 2 (List.map row_Tree t.Kids))), (10, .p (iv (t.Kids.length : Int))), (11, .p (iv (i1 : Int)))]) (Z := fun i1 s1 => wS σ s1 ++ [.cells [.p (iv t.Sym), .p (.sl none 2 (List.map row_Tree t.Kids))]]) (N := fun s1 => ⟨[(2, .ptr 11 0), (3, .ptr 10 0), (4, .ptr σ.length 0)], wS σ s1 ++ [.cells [.p (iv t.Sym), .p (.sl none 2 (List.map row_Tree t.Kids))]], [], none, false⟩) h rfl rfl (fun _ _ => rfl) ?_ ?_ ?_
  ·intro s1 h
   try dsimp only at h ⊢
   obtain ⟨p, e_p, h⟩ := ob h
   injection h with h; subst h
   have yy : ∀ l, call Try.prog T H (.yld 9) [.p (iv (w64 (w64 (s1.2 + 1) - 1))), .p (.agg [iv t.Sym, .sl none 2 (List.map row_Tree t.Kids)])] (wS σ (s1.1, w64 (s1.2 + 1)) ++ l) = some (.ret (.p (bv true)), wS σ (p, w64 (s1.2 + 1)) ++ l) := fun l => yld_spec hE5 hE7 hE12 hE13 hEl n a w wf t (s1.1, w64 (s1.2 + 1)) p _ e_p l
   simp only [go_sem, wS_len, b11, b11n, b10, b12, bs11, g0, gk, s0, sk, t0, tk, tx, yy]
   exact Sat.ok hQ
  ·intro K1 s1 hb1 he1
   try dsimp only
   conv => arg 1; arg 7; unfold L65_0 loopAt S22.c65 Try.f65; simp only [loopIn, Option.getD_some, if_true]
   simp only [go_sem, he1, wS_len, b11, b11n, b10, b12, bs11, g0, gk, s0, sk, t0, tk, tx, l12]
   exact hb1
  ·intro K1 k1 i1 x1 s1 n1 hR1 hE1 hb1 hx1 hi1 hw1 ih1 h
   try dsimp only at h ⊢
   conv => arg 1; arg 7; unfold L65_0 loopAt S22.c65 Try.f65; simp only [loopIn, Option.getD_some, if_true]
   obtain ⟨v2, e_v2, h⟩ := ob h
   have e_v2c : ∀ l, call Try.prog T H (.fn 65) [.p (.agg [iv x1.Sym, .sl none 2 (List.map row_Tree x1.Kids)]), .ptr 12 0, .ptr 11 0, .ptr 10 0] (wS σ s1 ++ l) = some (.ret (.p (bv true)), wS σ v2 ++ l) := fun l => by
    have q := ih (σ ++ l) (wf.app l) x1 s1 v2 e_v2
    rw [← wS_app _ hl, ← wS_app _ hl] at q
    exact q
   simp only [go_sem, hx1, hi1, hw1, e_v2c, hR1, hE1, wS_len, b11, b11n, b10, b12, bs11, g0, gk, s0, sk, t0, tk, tx, l12]
   exact ih1 v2 h
end Tab
theorem Sat.callrange {n : Nat} {K : Ex × S → Option (Out × List AObj)} {Q : Out × List AObj → Prop} {s : S} {d : Option Nat} {A : Option (Out × List AObj)} (h : Sat A (fun y => Sat (rangeK n K (some (endCall s d y.2 y.1))) Q)) :
 Sat (rangeK n K (callR s d A)) Q := by
 obtain ⟨⟨o, σ⟩, rfl, h2⟩ := h
 exact h2
end Go.AM.S22

namespace Go.AM.S22
open Go Go.Proofs Go.AM
set_option linter.unusedVariables false
set_option maxRecDepth 100000
set_option maxHeartbeats 4000000
namespace Tab
open Go Go.Proofs Go.AM Go.AM.S22
def FAR : Int := 2199023255552
def newsC (I n : Int) : Int := if n = 0 then FAR else if I = 0 then 0 else if 1099511627776 < n then FAR else n * I
def sumC : List (List Int) → List Int → Int → Int
 | c :: cs, f :: fs, s => sumC cs fs (min (s + gz c f) FAR)
 | _, _, s => s
def keepC (R : Int) (sym : Int) (kids : List (List Int)) (x : Rule) : Int :=
 if x.Sym ≠ sym ∧ R < 0 then FAR else if x.From.length = kids.length then sumC kids x.From (if x.Sym = sym then 0 else R) else FAR
def stC (R : Int) (sym : Int) (kids : List (List Int)) (row : List Int) (x : Rule) : List Int := row.set x.To.toNat (min (gz row x.To) (keepC R sym kids x))
def rowC (a : Automaton) (v : List Int) (R M I : Int) (sym : Int) (size : Nat) (kids : List (List Int)) : List Int :=
 a.Rules.foldl (stC R sym kids) (v.map fun n => min (M * (size : Int) + newsC I n) FAR)
mutual
def cosT (a : Automaton) (v : List Int) (R M I : Int) : Tree → List Int
 | .mk s ks => rowC a v R M I s (tsT (.mk s ks)) (cosL a v R M I ks)
def cosL (a : Automaton) (v : List Int) (R M I : Int) : List Tree → List (List Int)
 | [] => []
 | k :: ks => cosT a v R M I k :: cosL a v R M I ks
end
theorem cosT_eq (a : Automaton) (v : List Int) (R M I : Int) (t : Tree) : cosT a v R M I t = rowC a v R M I t.Sym (tsT t) (cosL a v R M I t.Kids) := by cases t; rw [cosT]
theorem cosL_map (a : Automaton) (v : List Int) (R M I : Int) : ∀ ks, cosL a v R M I ks = ks.map (cosT a v R M I)
 | [] => by rw [cosL]; rfl
 | k :: ks => by rw [cosL, cosL_map a v R M I ks]; rfl
structure CV (m : Nat) (c : List Int) : Prop where
 len : c.length = m
 bd : ∀ x ∈ c, 0 ≤ x ∧ x ≤ FAR
theorem CV.gz {m : Nat} {c : List Int} (h : CV m c) (x : Int) : 0 ≤ gz c x ∧ gz c x ≤ FAR := by
 unfold S22.gz
 cases e : c[x.toNat]? with
 | none => simp [FAR]
 | some y => exact h.bd y (List.mem_of_getElem? e)
theorem CV.set {m : Nat} {c : List Int} (h : CV m c) (i : Nat) {s : Int} (h0 : 0 ≤ s) (h1 : s ≤ FAR) : CV m (c.set i s) :=
 ⟨by rw [List.length_set, h.len], fun x hx => by
  rcases List.mem_or_eq_of_mem_set hx with hx | rfl
  ·exact h.bd x hx
  ·exact ⟨h0, h1⟩⟩
theorem CV.idx {m : Nat} {c : List Int} (h : CV m c) {x : Int} (h0 : 0 ≤ x) (h1 : x < (m : Int)) : idx c x = some (S22.gz c x) := idx_get h.len h0 h1
theorem CV.idxM {m : Nat} {c : List Int} (h : CV m c) {x : Int} (h0 : 0 ≤ x) (h1 : x < (m : Int)) : idxM m c x = some (S22.gz c x) := by
 unfold Go.AM.idxM S22.gz
 rw [if_pos (by omega), List.getElem?_eq_getElem (by rw [h.len]; omega)]; rfl
theorem newsC_bd {I n : Int} (hi : 0 ≤ I ∧ I ≤ 1000) (hn : 0 ≤ n) : 0 ≤ newsC I n ∧ newsC I n ≤ 1099511627776000 := by
 unfold newsC FAR
 split
 ·omega
 ·split
  ·omega
  ·split
   ·omega
   ·have := Int.mul_nonneg hn hi.1
    have := Int.mul_le_mul_of_nonneg_left hi.2 hn
    omega
theorem sumC_bd {m : Nat} : ∀ (cs : List (List Int)) (f : List Int) (s : Int), (∀ c ∈ cs, CV m c) → 0 ≤ s → s ≤ FAR → 0 ≤ sumC cs f s ∧ sumC cs f s ≤ FAR
 | [], _, s, _, h0, h1 => by rw [sumC]; exact ⟨h0, h1⟩; all_goals (intros; contradiction)
 | c :: cs, [], s, _, h0, h1 => by rw [sumC]; exact ⟨h0, h1⟩; all_goals (intros; contradiction)
 | c :: cs, x :: f, s, h, h0, h1 => by
  have := (h c (by simp)).gz x
  rw [sumC]
  exact sumC_bd cs f _ (fun d hd => h d (List.mem_cons_of_mem _ hd)) (by unfold FAR at *; omega) (by omega)
theorem keepC_bd {m : Nat} {R sym : Int} {kids : List (List Int)} (hk : ∀ c ∈ kids, CV m c) (hr : -1 ≤ R ∧ R ≤ 1000) (x : Rule) : 0 ≤ keepC R sym kids x ∧ keepC R sym kids x ≤ FAR := by
 unfold keepC
 split
 ·unfold FAR; omega
 ·rename_i h
  split
  ·refine sumC_bd kids _ _ hk ?_ ?_
   ·split
    ·omega
    ·rename_i h2
     have : ¬ R < 0 := fun h3 => h ⟨h2, h3⟩
     omega
   ·unfold FAR; split <;> omega
  ·unfold FAR; omega
theorem stC_CV {m : Nat} {R sym : Int} {kids : List (List Int)} (hk : ∀ c ∈ kids, CV m c) (hr : -1 ≤ R ∧ R ≤ 1000) {row : List Int} (h : CV m row) (x : Rule) : CV m (stC R sym kids row x) := by
 have h1 := h.gz x.To
 have h2 := keepC_bd hk hr (sym := sym) x
 exact h.set _ (by omega) (by omega)
theorem foldC_CV {m : Nat} {R sym : Int} {kids : List (List Int)} (hk : ∀ c ∈ kids, CV m c) (hr : -1 ≤ R ∧ R ≤ 1000) : ∀ (l : List Rule) (row : List Int), CV m row → CV m (l.foldl (stC R sym kids) row)
 | [], _, h => h
 | x :: l, row, h => foldC_CV hk hr l _ (stC_CV hk hr h x)
theorem ini_CV {a : Automaton} {v : List Int} {M I : Int} (hv : ZV a.States.toNat v) (hm : 0 ≤ M ∧ M ≤ 1000) (hi : 0 ≤ I ∧ I ≤ 1000) (size : Nat) : CV a.States.toNat (v.map fun n => min (M * (size : Int) + newsC I n) FAR) := by
 refine ⟨by rw [List.length_map, hv.len], fun x hx => ?_⟩
 obtain ⟨n, hn, rfl⟩ := List.mem_map.1 hx
 have h1 := (newsC_bd hi (hv.bd n hn).1).1
 have h2 := (mul_bd hm size).1
 unfold FAR; omega
mutual
theorem cosT_CV {a : Automaton} {v : List Int} {R M I : Int} (hv : ZV a.States.toNat v) (w : WOk R M I) : ∀ t : Tree, CV a.States.toNat (cosT a v R M I t)
 | .mk s ks => by
  rw [cosT, rowC]
  exact foldC_CV (cosL_CV hv w ks) w.r _ _ (ini_CV hv w.m w.i _)
theorem cosL_CV {a : Automaton} {v : List Int} {R M I : Int} (hv : ZV a.States.toNat v) (w : WOk R M I) : ∀ ks : List Tree, ∀ c ∈ cosL a v R M I ks, CV a.States.toNat c
 | [], c, h => by rw [cosL] at h; cases h
 | k :: ks, c, h => by
  rw [cosL] at h
  rcases List.mem_cons.1 h with rfl | h
  ·exact cosT_CV hv w k
  ·exact cosL_CV hv w ks c h
end
def KR (C : Tree → List Int) (cost : List (List Int)) (roots : List Int) (ks : List Tree) : Prop :=
 roots.length = ks.length ∧ ∀ (i : Nat) k t, roots[i]? = some k → ks[i]? = some t → idx cost k = some (C t)
theorem keep_loop {m : Nat} {C : Tree → List Int} {cost : List (List Int)} {roots : List Int} {all : List Tree} (hk : KR C cost roots all) (hC : ∀ t ∈ all, CV m (C t)) {Rr : Type} : ∀ (f : List Int) (ks : List Tree) (i : Nat) (s : Int) (K : Int → Option Rr),
 all.drop i = ks → f.length = ks.length → (∀ x ∈ f, 0 ≤ x ∧ x < (m : Int)) → 0 ≤ s → s ≤ FAR →
 rangeC (fun i1 x1 (s1 : Int) n1 => (roots[i1]?).bind fun v3 => (idx cost v3).bind fun v4 => (idx v4 x1).bind fun v5 => (repair_least_int (w64 (s1 + v5)) 2199023255552).bind fun v6 => n1 v6) f i s K = K (sumC (ks.map C) f s)
 | [], ks, i, s, K, hd, hl, _, _, _ => by
  have : ks = [] := List.length_eq_zero_iff.1 hl.symm
  subst this
  rw [rangeC]; rfl
 | x :: f, [], _, _, _, _, h, _, _, _ => by cases h
 | x :: f, k :: ks, i, s, K, hd, hl, hf, h0, h1 => by
  have hy : all[i]? = some k := by
   have := List.getElem?_drop (xs := all) (i := i) (j := 0)
   rw [hd] at this
   simpa using this.symm
  have hd' : all.drop (i + 1) = ks := by
   have : all.drop (i + 1) = (all.drop i).drop 1 := by rw [List.drop_drop]
   rw [this, hd]; rfl
  have hil := (List.getElem?_eq_some_iff.1 hy).1
  obtain ⟨q, hq⟩ : ∃ q, roots[i]? = some q := ⟨_, List.getElem?_eq_getElem (by rw [hk.1]; exact hil)⟩
  have hc := hC k (List.mem_of_getElem? hy)
  have hx := hf x (by simp)
  have hg := hc.gz x
  unfold FAR at h1 hg
  rw [rangeC, hq, Option.bind_some, hk.2 i q k hq hy, Option.bind_some, hc.idx hx.1 hx.2, Option.bind_some, w64_eq (by omega) (by omega), least_eq, Option.bind_some]
  refine (keep_loop hk hC f ks (i + 1) (min (s + S22.gz (C k) x) 2199023255552) K hd' (by simpa using hl) (fun y hy => hf y (List.mem_cons_of_mem _ hy)) (by omega) (by unfold FAR; omega)).trans ?_
  rw [List.map_cons, sumC]; rfl
theorem keep_eq {a : Automaton} (ha : OKa a) {C : Tree → List Int} {tb : repair_table} {u : Tree} {roots : List Int} {c : Nat} (hk : KR C tb.cost roots u.Kids) (hC : ∀ t ∈ u.Kids, CV a.States.toNat (C t)) (ht : tb.tree[c]? = some u) (hr : tb.kids[c]? = some roots) (hs : tsT u ≤ 80)
 (hw : -1 ≤ tb.w.Relabel ∧ tb.w.Relabel ≤ 1000) {x : Rule} (hx : x ∈ a.Rules) : repair_table_keep_wxx tb x (c : Int) = some (keepC tb.w.Relabel u.Sym (u.Kids.map C) x) := by
 have hst := ha.st
 have hfr := ha.from' x hx
 have hfl := ha.frm x hx
 have hlk := tlen u.Kids
 have hts := tsT_eq u
 have i1 : idx tb.tree (c : Int) = some u := by unfold idx; rw [if_pos (by omega), Int.toNat_natCast, ht]
 have i2 : idx tb.kids (c : Int) = some roots := by unfold idx; rw [if_pos (by omega), Int.toNat_natCast, hr]
 have hkl := hk.1
 unfold repair_table_keep_wxx keepC
 rw [i1, Option.bind_some, List.length_map]
 by_cases e1 : x.Sym = u.Sym
 ·rw [if_pos e1, if_neg (fun h => h.1 e1), i2, Option.bind_some]
  by_cases e2 : x.From.length = u.Kids.length
  ·rw [if_pos (show (x.From.length : Int) = roots.length by omega), if_pos e2, if_pos e1, rangeL, if_pos (by omega)]
   exact keep_loop hk hC x.From u.Kids 0 0 _ (by simp) e2 (fun y hy => by have := hfr y hy; omega) (by omega) (by unfold FAR; omega)
  ·rw [if_neg (show ¬ (x.From.length : Int) = roots.length by omega), if_neg e2]; rfl
 ·rw [if_neg e1]
  by_cases e3 : tb.w.Relabel < 0
  ·rw [if_pos e3, if_pos ⟨e1, e3⟩]; rfl
  ·rw [if_neg e3, if_neg (fun h => e3 h.2), i2, Option.bind_some]
   by_cases e2 : x.From.length = u.Kids.length
   ·rw [if_pos (show (x.From.length : Int) = roots.length by omega), if_pos e2, if_neg e1, rangeL, if_pos (by omega)]
    exact keep_loop hk hC x.From u.Kids 0 tb.w.Relabel _ (by simp) e2 (fun y hy => by have := hfr y hy; omega) (by omega) (by unfold FAR; omega)
   ·rw [if_neg (show ¬ (x.From.length : Int) = roots.length by omega), if_neg e2]; rfl
theorem news_eq {m : Nat} {tb : repair_table} (hv : ZV m tb.size) (hi : 0 ≤ tb.w.Insert ∧ tb.w.Insert ≤ 1000) {i : Nat} {n : Int} (h : tb.size[i]? = some n) : repair_table_news_wx tb (i : Int) = some (newsC tb.w.Insert n) := by
 have hb := hv.bd n (List.mem_of_getElem? h)
 unfold repair_table_news_wx newsC
 have : idx tb.size (i : Int) = some n := by unfold idx; rw [if_pos (by omega), Int.toNat_natCast, h]
 rw [this, Option.bind_some]
 by_cases c1 : n = 0
 ·rw [if_pos c1, if_pos c1]; rfl
 ·rw [if_neg c1, if_neg c1]
  by_cases c2 : tb.w.Insert = 0
  ·rw [if_pos c2, if_pos c2]
  ·rw [if_neg c2, if_neg c2]
   by_cases c3 : 1099511627776 < n
   ·rw [if_pos c3, if_pos c3]; rfl
   ·have h1 := Int.mul_nonneg hb.1 hi.1
    have h2 := Int.mul_le_mul_of_nonneg_left hi.2 hb.1
    rw [if_neg c3, if_neg c3, w64_eq (by omega) (by omega)]
theorem rows_eq {a : Automaton} (ha : OKa a) {C : Tree → List Int} {tb : repair_table} {u : Tree} {roots : List Int} {c n : Nat} (hk : KR C tb.cost roots u.Kids) (hC : ∀ t ∈ u.Kids, CV a.States.toNat (C t)) (ht : tb.tree[c]? = some u) (hr : tb.kids[c]? = some roots) (hs : tsT u ≤ 80)
 (hv : ZV a.States.toNat tb.size) (hw : -1 ≤ tb.w.Relabel ∧ tb.w.Relabel ≤ 1000) (hm : 0 ≤ tb.w.Remove ∧ tb.w.Remove ≤ 1000) (hi : 0 ≤ tb.w.Insert ∧ tb.w.Insert ≤ 1000) {Rr : Type} (K : List Int → Option Rr) :
 (rangeI ((a.States).toNat : Int) (List.replicate a.States.toNat 0) (fun k1 i1 (s1 : (List Int)) n1 =>
  (repair_table_news_wx tb ((i1 : Nat) : Int)).bind fun v13 =>
  (repair_least_int (w64 ((w64 (tb.w.Remove * (tsT u : Int))) + v13)) 2199023255552).bind fun v14 =>
  (idxM ((a.States).toNat) s1 ((i1 : Nat) : Int)).bind fun v15 =>
  n1 (List.set s1 i1 v14)) fun s1 =>
 rangeL a.Rules s1 (fun k2 i2 x2 (s2 : (List Int)) n2 =>
  (idxM ((a.States).toNat) s2 x2.To).bind fun v10 =>
  (repair_table_keep_wxx tb x2 (c : Int)).bind fun v11 =>
  (repair_least_int v10 v11).bind fun v12 =>
  n2 (List.set s2 ((x2.To).toNat) v12)) K) = K (rowC a tb.size tb.w.Relabel tb.w.Remove tb.w.Insert u.Sym (tsT u) (u.Kids.map C)) := by
 have hst := ha.st
 have hrl := ha.rul
 have hm2 := mul_bd hm (tsT u)
 rw [rangeI, if_pos (by omega)]
 have hin := iniG (R := Rr) (f := fun n => min (tb.w.Remove * (tsT u : Int) + newsC tb.w.Insert n) FAR) (z0 := 0) (m := a.States.toNat) hv.len
  (body := fun i1 (_ : Unit) (s1 : List Int) n1 => (repair_table_news_wx tb ((i1 : Nat) : Int)).bind fun v13 =>
   (repair_least_int (w64 ((w64 (tb.w.Remove * (tsT u : Int))) + v13)) 2199023255552).bind fun v14 =>
   (idxM ((a.States).toNat) s1 ((i1 : Nat) : Int)).bind fun v15 => n1 (List.set s1 i1 v14))
  (fun i s n1 v hz hl hg => by
   have hlt := (List.getElem?_eq_some_iff.1 hg).1
   have hb := newsC_bd hi (hv.bd v (List.mem_of_getElem? hz)).1
   have hix : idxM a.States.toNat s (i : Int) = some 0 := by
    unfold idxM
    rw [if_pos (by omega), Int.toNat_natCast, hg]
   rw [news_eq hv hi hz, Option.bind_some, w64_eq (n := tb.w.Remove * _) (by omega) (by omega), w64_eq (by omega) (by omega), least_eq, Option.bind_some, hix, Option.bind_some]; rfl)
  (fun s1 => rangeL a.Rules s1 (fun k2 i2 x2 (s2 : (List Int)) n2 =>
   (idxM ((a.States).toNat) s2 x2.To).bind fun v10 =>
   (repair_table_keep_wxx tb x2 (c : Int)).bind fun v11 =>
   (repair_least_int v10 v11).bind fun v12 =>
   n2 (List.set s2 ((x2.To).toNat) v12)) K) tb.size [] rfl
 rw [hv.len] at hin
 simp only [List.length_nil, List.map_nil, List.nil_append, Int.toNat_natCast] at hin ⊢
 rw [hin, rangeL, if_pos (by omega)]
 have hKC : ∀ c ∈ u.Kids.map C, CV a.States.toNat c := fun c hc => by
  obtain ⟨t, h1, rfl⟩ := List.mem_map.1 hc
  exact hC t h1
 refine (S22.foldC (step := stC tb.w.Relabel u.Sym (u.Kids.map C)) (fun row => CV a.States.toNat row) a.Rules 0 _ K (ini_CV hv hm hi _) (fun j x s n1 hx hI => ?_) fun x s hx hI => stC_CV hKC hw hI x).1
 have hto := ha.to x hx
 rw [hI.idxM hto.1 (by omega), Option.bind_some, keep_eq ha hk hC ht hr hs hw hx, Option.bind_some, least_eq, Option.bind_some]; rfl
end Tab
end Go.AM.S22

namespace Go.AM.S22
open Go Go.Proofs Go.AM
set_option maxRecDepth 100000
def law22_awake (n : Nat) : Option Bool := some true
theorem aw9 : callK Try.prog T H 400 (.fn 9) [] [] = some (.ret (.p (bv true)), []) := by kernel_rfl
theorem spec9 (n : Nat) (r : Bool) (h : law22_awake n = some r) : call Try.prog T H (.fn 9) [] [] = some (.ret (.p (bv r)), []) := by
 injection h with h
 subst h
 exact call_le 400 _ _ _ _ aw9
end Go.AM.S22

namespace Go.AM.S22
open Go Go.Proofs Go.AM
set_option maxRecDepth 100000
set_option linter.unusedVariables false
set_option maxHeartbeats 4000000
def repair_tableOf (n : Nat) (a0 : Alphabet) (a1 : Automaton) (a2 : Tree) (a3 : repair_Weights) : Option (repair_table × Int) :=
 (empty_Sizes a0 a1).bind fun v1 =>
 if v1.2 = 0 then
  (Tab.walk n a1 a3 n a2 ((none, (repair_table.mk a1 a3 v1.1 ([] : List (List Int)) ([] : List (List Int)) ([] : List Tree))), 0)).bind fun v =>
  (v.1.1).bind fun w =>
  some (v.1.2, 0)
 else
  none
theorem spec81 (n : Nat) (a0 : Alphabet) (a1 : Automaton) (a2 : Tree) (a3 : repair_Weights) (r : repair_table × Int) (h : repair_tableOf n a0 a1 a2 a3 = some r) :
 call Try.prog T H (.fn 81) [.p (.agg [.sl none 1 (List.map rowI a0.Ranks)]), .p (.agg [iv a1.States, .sl none 1 (List.map rowI a1.Final), .sl none 3 (List.map row_Rule a1.Rules)]), .p (.agg [iv a2.Sym, .sl none 2 (List.map row_Tree a2.Kids)]), .p (.agg [iv a3.Relabel, iv a3.Remove, iv a3.Insert])] [] = some (.ret (.p (.tup [.pp [iv r.1.a.States, .sl none 1 (List.map rowI r.1.a.Final), .sl none 3 (List.map row_Rule r.1.a.Rules), iv r.1.w.Relabel, iv r.1.w.Remove, iv r.1.w.Insert, .sl none 1 (List.map rowI r.1.size), .sl none 1 (List.map (rowL 1 rowI) r.1.cost), .sl none 1 (List.map (rowL 1 rowI) r.1.kids), .sl none 2 (List.map row_Tree r.1.tree)], iv r.2])), []) := by
 refine Sat.fn fun Q hQ => ?_
 unfold repair_tableOf at h
 rw [call81, cf81]
 conv => arg 1; arg 7; unfold S22.c81 Try.f81; simp only [Option.getD_some, foldR, if_true]
 obtain ⟨v1, e_v1, h⟩ := ob h
 have e_v1c := spec37 a0 a1 v1 e_v1
 by_cases c1 : v1.2 = 0
 ·have h := iteT h c1
  have c1b : (v1.2 != 0) = false := bneF c1
  simp only [go_sem, e_v1c, c1b]
  refine Sat.callc ?_
  rw [call30]
  conv => arg 1; arg 7; unfold S22.c30 Try.f30; simp only [Option.getD_some]
  simp only [go_sem]
  refine Sat.ok ?_
  obtain ⟨v, e_v, h⟩ := ob h
  obtain ⟨w, e_w, h⟩ := ob h
  simp only [go_sem, e_v1c, c1b]
  have q : ∀ E c0 c2 c8, get E 5 = .ptr 1 0 → get E 7 = .ptr 3 0 → get E 12 = .ptr 5 0 → get E 13 = .ptr 7 0 → ltVis 9 E = true → call Try.prog T H (.fn 65) [.p (.agg [iv a2.Sym, .sl none 2 (List.map row_Tree a2.Kids)]), .ptr 12 0, .ptr 11 0, .ptr 10 0] [c0, .cells [.p (iv a1.States), .p (.sl none 1 (List.map rowI a1.Final)), .p (.sl none 3 (List.map row_Rule a1.Rules))], c2, .cells [.p (iv a3.Relabel), .p (iv a3.Remove), .p (iv a3.Insert)], .cells [.p (iv a1.States), .p (.sl none 1 (List.map rowI a1.Final)), .p (.sl none 3 (List.map row_Rule a1.Rules)), .p (iv a3.Relabel), .p (iv a3.Remove), .p (iv a3.Insert), .p (.sl none 1 (List.map rowI v1.1)), .own 1 [], .own 1 [], .own 2 []], .cells [.ptr 4 0], .dead, .cells [.nms 6 1], c8, .loop 0 none 131 81 E [38, 39] A81_0 B81_0, .cells [.yld 9], .cells [.p (iv 0)], .cells [.fn 65 [.ptr 12 0, .ptr 11 0, .ptr 10 0]]] = some (.ret (.p (bv true)), [c0, .cells [.p (iv a1.States), .p (.sl none 1 (List.map rowI a1.Final)), .p (.sl none 3 (List.map row_Rule a1.Rules))], c2, .cells [.p (iv a3.Relabel), .p (iv a3.Remove), .p (iv a3.Insert)], .cells [.p (iv v.1.2.a.States), .p (.sl none 1 (List.map rowI v.1.2.a.Final)), .p (.sl none 3 (List.map row_Rule v.1.2.a.Rules)), .p (iv v.1.2.w.Relabel), .p (iv v.1.2.w.Remove), .p (iv v.1.2.w.Insert), .p (.sl none 1 (List.map rowI v.1.2.size)), .own 1 (List.map (rowL 1 rowI) v.1.2.cost), .own 1 (List.map (rowL 1 rowI) v.1.2.kids), .own 2 (List.map row_Tree v.1.2.tree)], .cells [.ptr 4 0], .arr w.1 1 (List.map (rowA rowI) w.2.1), .cells [.ms 6 w.1 1 0 w.2.2], c8, .loop 0 none 131 81 E [38, 39] A81_0 B81_0, .cells [.yld 9], .cells [.p (iv v.2)], .cells [.fn 65 [.ptr 12 0, .ptr 11 0, .ptr 10 0]]]) := fun E c0 c2 c8 h5 h7 h12 h13 hE => by
   have q := Tab.spec65 h5 h7 h12 h13 (ltVis_iff.1 hE) n a1 a3 n [c0, .cells [.p (iv a1.States), .p (.sl none 1 (List.map rowI a1.Final)), .p (.sl none 3 (List.map row_Rule a1.Rules))], c2, .cells [.p (iv a3.Relabel), .p (iv a3.Remove), .p (iv a3.Insert)], .cells [.p (iv a1.States), .p (.sl none 1 (List.map rowI a1.Final)), .p (.sl none 3 (List.map row_Rule a1.Rules)), .p (iv a3.Relabel), .p (iv a3.Remove), .p (iv a3.Insert), .p (.sl none 1 (List.map rowI v1.1)), .own 1 [], .own 1 [], .own 2 []], .cells [.ptr 4 0], .dead, .cells [.nms 6 1], c8, .loop 0 none 131 81 E [38, 39] A81_0 B81_0, .cells [.yld 9], .cells [.p (iv 0)], .cells [.fn 65 [.ptr 12 0, .ptr 11 0, .ptr 10 0]]] ⟨by simp, rfl, rfl, rfl, rfl, rfl, rfl⟩ a2 ((none, (repair_table.mk a1 a3 v1.1 ([] : List (List Int)) ([] : List (List Int)) ([] : List Tree))), 0) v e_v
   have e1 : Tab.wS [c0, .cells [.p (iv a1.States), .p (.sl none 1 (List.map rowI a1.Final)), .p (.sl none 3 (List.map row_Rule a1.Rules))], c2, .cells [.p (iv a3.Relabel), .p (iv a3.Remove), .p (iv a3.Insert)], .cells [.p (iv a1.States), .p (.sl none 1 (List.map rowI a1.Final)), .p (.sl none 3 (List.map row_Rule a1.Rules)), .p (iv a3.Relabel), .p (iv a3.Remove), .p (iv a3.Insert), .p (.sl none 1 (List.map rowI v1.1)), .own 1 [], .own 1 [], .own 2 []], .cells [.ptr 4 0], .dead, .cells [.nms 6 1], c8, .loop 0 none 131 81 E [38, 39] A81_0 B81_0, .cells [.yld 9], .cells [.p (iv 0)], .cells [.fn 65 [.ptr 12 0, .ptr 11 0, .ptr 10 0]]] v = [c0, .cells [.p (iv a1.States), .p (.sl none 1 (List.map rowI a1.Final)), .p (.sl none 3 (List.map row_Rule a1.Rules))], c2, .cells [.p (iv a3.Relabel), .p (iv a3.Remove), .p (iv a3.Insert)], .cells [.p (iv v.1.2.a.States), .p (.sl none 1 (List.map rowI v.1.2.a.Final)), .p (.sl none 3 (List.map row_Rule v.1.2.a.Rules)), .p (iv v.1.2.w.Relabel), .p (iv v.1.2.w.Remove), .p (iv v.1.2.w.Insert), .p (.sl none 1 (List.map rowI v.1.2.size)), .own 1 (List.map (rowL 1 rowI) v.1.2.cost), .own 1 (List.map (rowL 1 rowI) v.1.2.kids), .own 2 (List.map row_Tree v.1.2.tree)], .cells [.ptr 4 0], .arr w.1 1 (List.map (rowA rowI) w.2.1), .cells [.ms 6 w.1 1 0 w.2.2], c8, .loop 0 none 131 81 E [38, 39] A81_0 B81_0, .cells [.yld 9], .cells [.p (iv v.2)], .cells [.fn 65 [.ptr 12 0, .ptr 11 0, .ptr 10 0]]] := by unfold Tab.wS Tab.zS Tab.yS; rw [e_w]; rfl
   rw [e1] at q; exact q
  refine Sat.callrange ?_
  rw [call64]
  conv => arg 1; arg 7; unfold S22.c64 Try.f64; simp only [Option.getD_some]
  simp only [go_sem, q, ltVis, List.all_cons, List.all_nil]
  refine Sat.ok ?_
  try simp only [go_sem, rangeK_ok, atLoop_some, pendK_none]
  try simp only [go_sem, e_v1c, c1b]
  injection h with h; subst h
  exact Sat.ok hQ
 ·have h := iteF h c1
  have c1b : (v1.2 != 0) = true := bneT c1
  cases h
def repair_table_best_p (a0 : repair_table) : Option (Int × Int) :=
 rangeL a0.a.Final ((-1), 0) (fun k1 i1 x1 (s1 : Int × Int) n1 =>
  (idx a0.size x1).bind fun v1 =>
  if 0 < v1 then
   if s1.1 < 0 then
    (idx a0.cost (w64 ((a0.cost.length : Int) - 1))).bind fun v2 =>
    (idx v2 x1).bind fun v3 =>
    n1 (x1, v3)
   else
    (idx a0.cost (w64 ((a0.cost.length : Int) - 1))).bind fun v4 =>
    (idx v4 x1).bind fun v5 =>
    if v5 < s1.2 then
     n1 (x1, v5)
    else
     n1 (s1.1, s1.2)
  else
   n1 (s1.1, s1.2)) fun s1 =>
 some (s1.1, s1.2)
theorem spec82_p (σ : List AObj) (a0 : repair_table) (r : Int × Int) (h : repair_table_best_p a0 = some r) :
 call Try.prog T H (.fn 82) [.p (.pp [iv a0.a.States, .sl none 1 (List.map rowI a0.a.Final), .sl none 3 (List.map row_Rule a0.a.Rules), iv a0.w.Relabel, iv a0.w.Remove, iv a0.w.Insert, .sl none 1 (List.map rowI a0.size), .sl none 1 (List.map (rowL 1 rowI) a0.cost), .sl none 1 (List.map (rowL 1 rowI) a0.kids), .sl none 2 (List.map row_Tree a0.tree)])] σ = some (.ret (.p (.tup [iv r.1, iv r.2])), σ) := by
 refine Sat.fn fun Q hQ => ?_
 unfold repair_table_best_p at h
 rw [call82]
 conv => arg 1; arg 7; unfold S22.c82 Try.f82; simp only [Option.getD_some]
 simp only [go_sem]
 refine run_rangeL (c := L82_0) (live := [0, 4, 5, 12, 13, 14]) (by simp only [go_sem]) (M := fun i1 (s1 : Int × Int) => [(0, .p (.pp [iv a0.a.States, .sl none 1 (List.map rowI a0.a.Final), .sl none 3 (List.map row_Rule a0.a.Rules), iv a0.w.Relabel, iv a0.w.Remove, iv a0.w.Insert, .sl none 1 (List.map rowI a0.size), .sl none 1 (List.map (rowL 1 rowI) a0.cost), .sl none 1 (List.map (rowL 1 rowI) a0.kids), .sl none 2 (List.map row_Tree a0.tree)])), (4, .p (iv s1.1)), (5, .p (iv s1.2)), (12, .p (.sl none 1 (List.map rowI a0.a.Final))), (13, .p (iv (a0.a.Final.length : Int))), (14, .p (iv (i1 : Int)))]) (Z := fun i1 (s1 : Int × Int) => σ) (N := fun (s1 : Int × Int) => ⟨[(4, .p (iv s1.1)), (5, .p (iv s1.2))], σ, [], none, false⟩) h rfl rfl (fun _ _ => rfl) ?_ ?_ ?_
 ·intro s1 h
  try dsimp only at h ⊢
  simp only [go_sem]
  injection h with h; subst h
  exact Sat.ok hQ
 ·intro K1 s1 hb1 he1
  try dsimp only
  conv => arg 1; arg 7; unfold L82_0 loopAt S22.c82 Try.f82; simp only [loopIn, Option.getD_some, if_true]
  simp only [go_sem, he1]
  exact hb1
 ·intro K1 k1 i1 x1 s1 n1 hR1 hE1 hb1 hx1 hi1 hw1 ih1 h
  try dsimp only at h ⊢
  conv => arg 1; arg 7; unfold L82_0 loopAt S22.c82 Try.f82; simp only [loopIn, Option.getD_some, if_true]
  obtain ⟨v1, e_v1, h⟩ := ob h
  obtain ⟨e_v1a, e_v1b⟩ := idx_some e_v1
  by_cases c1 : 0 < v1
  ·have h := iteT h c1
   by_cases c2 : s1.1 < 0
   ·have h := iteT h c2
    obtain ⟨v2, e_v2, h⟩ := ob h
    obtain ⟨e_v2a, e_v2b⟩ := idx_some e_v2
    obtain ⟨v3, e_v3, h⟩ := ob h
    obtain ⟨e_v3a, e_v3b⟩ := idx_some e_v3
    simp only [go_sem, hx1, hi1, hw1, e_v1a, e_v1b, c1, c2, e_v2a, e_v2b, e_v3a, e_v3b, hR1, hE1]
    exact ih1 (x1, v3) h
   ·have h := iteF h c2
    obtain ⟨v4, e_v4, h⟩ := ob h
    obtain ⟨e_v4a, e_v4b⟩ := idx_some e_v4
    obtain ⟨v5, e_v5, h⟩ := ob h
    obtain ⟨e_v5a, e_v5b⟩ := idx_some e_v5
    by_cases c3 : v5 < s1.2
    ·have h := iteT h c3
     simp only [go_sem, hx1, hi1, hw1, e_v1a, e_v1b, c1, c2, e_v4a, e_v4b, e_v5a, e_v5b, c3, hR1, hE1]
     exact ih1 (x1, v5) h
    ·have h := iteF h c3
     simp only [go_sem, hx1, hi1, hw1, e_v1a, e_v1b, c1, c2, e_v4a, e_v4b, e_v5a, e_v5b, c3, hR1, hE1]
     exact ih1 (s1.1, s1.2) h
  ·have h := iteF h c1
   simp only [go_sem, hx1, hi1, hw1, e_v1a, e_v1b, c1, hR1, hE1]
   exact ih1 (s1.1, s1.2) h
def repair_checked (n : Nat) (a0 : Alphabet) (a1 : Automaton) (a2 : Tree) (a3 : repair_Weights) : Option ((Option repair_table) × Int × Int × Int) :=
 (auto_Valid a0 a1).bind fun v1 =>
 if v1 = true then
  (tree_Valid n a0 a2).bind fun v2 =>
  if v2 = true then
   (repair_fits a3).bind fun v3 =>
   if v3 = true then
    (repair_tableOf n a0 a1 a2 a3).bind fun v4 =>
    if v4.2 = 0 then
     (repair_table_best_p v4.1).bind fun v5 =>
     if v5.1 < 0 then
      some ((none : Option repair_table), 0, 0, 5)
     else
      if 1099511627776 < v5.2 then
       some ((none : Option repair_table), 0, 0, 3)
      else
       some ((some v4.1), v5.1, v5.2, 0)
    else
     some ((none : Option repair_table), 0, 0, v4.2)
   else
    some ((none : Option repair_table), 0, 0, 6)
  else
   some ((none : Option repair_table), 0, 0, 1)
 else
  some ((none : Option repair_table), 0, 0, 1)
theorem spec52 (n : Nat) (a0 : Alphabet) (a1 : Automaton) (a2 : Tree) (a3 : repair_Weights) (r : (Option repair_table) × Int × Int × Int) (h : repair_checked n a0 a1 a2 a3 = some r) :
 call Try.prog T H (.fn 52) [.p (.agg [.sl none 1 (List.map rowI a0.Ranks)]), .p (.agg [iv a1.States, .sl none 1 (List.map rowI a1.Final), .sl none 3 (List.map row_Rule a1.Rules)]), .p (.agg [iv a2.Sym, .sl none 2 (List.map row_Tree a2.Kids)]), .p (.agg [iv a3.Relabel, iv a3.Remove, iv a3.Insert])] [] = some (.ret (.p (.tup [oP (fun (x : repair_table) => [iv x.a.States, .sl none 1 (List.map rowI x.a.Final), .sl none 3 (List.map row_Rule x.a.Rules), iv x.w.Relabel, iv x.w.Remove, iv x.w.Insert, .sl none 1 (List.map rowI x.size), .sl none 1 (List.map (rowL 1 rowI) x.cost), .sl none 1 (List.map (rowL 1 rowI) x.kids), .sl none 2 (List.map row_Tree x.tree)]) r.1, iv r.2.1, iv r.2.2.1, iv r.2.2.2])), []) := by
 refine Sat.fn fun Q hQ => ?_
 unfold repair_checked at h
 rw [call52]
 conv => arg 1; arg 7; unfold S22.c52 Try.f52; simp only [Option.getD_some]
 obtain ⟨v1, e_v1, h⟩ := ob h
 have e_v1c := spec28 a0 a1 v1 e_v1
 by_cases c1 : v1 = true
 ·have h := iteT h c1
  obtain ⟨v2, e_v2, h⟩ := ob h
  have e_v2c := spec29 n a0 a2 v2 e_v2
  by_cases c2 : v2 = true
  ·have h := iteT h c2
   obtain ⟨v3, e_v3, h⟩ := ob h
   have e_v3c := spec45 a3 v3 e_v3
   by_cases c3 : v3 = true
   ·have h := iteT h c3
    obtain ⟨v4, e_v4, h⟩ := ob h
    have e_v4c := spec81 n a0 a1 a2 a3 v4 e_v4
    by_cases c4 : v4.2 = 0
    ·have h := iteT h c4
     have c4b : (v4.2 != 0) = false := bneF c4
     obtain ⟨v5, e_v5, h⟩ := ob h
     have e_v5c : call Try.prog T H (.fn 82) [.p (.pp [iv v4.1.a.States, .sl none 1 (List.map rowI v4.1.a.Final), .sl none 3 (List.map row_Rule v4.1.a.Rules), iv v4.1.w.Relabel, iv v4.1.w.Remove, iv v4.1.w.Insert, .sl none 1 (List.map rowI v4.1.size), .sl none 1 (List.map (rowL 1 rowI) v4.1.cost), .sl none 1 (List.map (rowL 1 rowI) v4.1.kids), .sl none 2 (List.map row_Tree v4.1.tree)])] [.cells [.p (.sl none 1 (List.map rowI a0.Ranks))], .cells [.p (iv a1.States), .p (.sl none 1 (List.map rowI a1.Final)), .p (.sl none 3 (List.map row_Rule a1.Rules))], .cells [.p (iv a2.Sym), .p (.sl none 2 (List.map row_Tree a2.Kids))], .cells [.p (iv a3.Relabel), .p (iv a3.Remove), .p (iv a3.Insert)]] = some (.ret (.p (.tup [iv v5.1, iv v5.2])), [.cells [.p (.sl none 1 (List.map rowI a0.Ranks))], .cells [.p (iv a1.States), .p (.sl none 1 (List.map rowI a1.Final)), .p (.sl none 3 (List.map row_Rule a1.Rules))], .cells [.p (iv a2.Sym), .p (.sl none 2 (List.map row_Tree a2.Kids))], .cells [.p (iv a3.Relabel), .p (iv a3.Remove), .p (iv a3.Insert)]]) := by have q := spec82_p [.cells [.p (.sl none 1 (List.map rowI a0.Ranks))], .cells [.p (iv a1.States), .p (.sl none 1 (List.map rowI a1.Final)), .p (.sl none 3 (List.map row_Rule a1.Rules))], .cells [.p (iv a2.Sym), .p (.sl none 2 (List.map row_Tree a2.Kids))], .cells [.p (iv a3.Relabel), .p (iv a3.Remove), .p (iv a3.Insert)]] v4.1 v5 e_v5; first | (simp only [go_sem] at q ⊢; exact q) | exact q
     by_cases c5 : v5.1 < 0
     ·have h := iteT h c5
      simp only [go_sem, e_v1c, c1, e_v2c, c2, e_v3c, c3, e_v4c, c4b, e_v5c, c5]
      injection h with h; subst h
      exact Sat.ok hQ
     ·have h := iteF h c5
      by_cases c6 : 1099511627776 < v5.2
      ·have h := iteT h c6
       simp only [go_sem, e_v1c, c1, e_v2c, c2, e_v3c, c3, e_v4c, c4b, e_v5c, c5, c6]
       injection h with h; subst h
       exact Sat.ok hQ
      ·have h := iteF h c6
       simp only [go_sem, e_v1c, c1, e_v2c, c2, e_v3c, c3, e_v4c, c4b, e_v5c, c5, c6]
       injection h with h; subst h
       exact Sat.ok hQ
    ·have h := iteF h c4
     have c4b : (v4.2 != 0) = true := bneT c4
     simp only [go_sem, e_v1c, c1, e_v2c, c2, e_v3c, c3, e_v4c, c4b]
     injection h with h; subst h
     exact Sat.ok hQ
   ·have h := iteF h c3
    have c3 := eq_false_of_ne_true c3
    simp only [go_sem, e_v1c, c1, e_v2c, c2, e_v3c, c3]
    injection h with h; subst h
    exact Sat.ok hQ
  ·have h := iteF h c2
   have c2 := eq_false_of_ne_true c2
   simp only [go_sem, e_v1c, c1, e_v2c, c2]
   injection h with h; subst h
   exact Sat.ok hQ
 ·have h := iteF h c1
  have c1 := eq_false_of_ne_true c1
  simp only [go_sem, e_v1c, c1]
  injection h with h; subst h
  exact Sat.ok hQ
def repair_Cost (n : Nat) (a0 : Alphabet) (a1 : Automaton) (a2 : Tree) (a3 : repair_Weights) : Option (Int × Int) :=
 (repair_checked n a0 a1 a2 a3).bind fun v1 =>
 some (v1.2.2.1, v1.2.2.2)
theorem spec20 (n : Nat) (a0 : Alphabet) (a1 : Automaton) (a2 : Tree) (a3 : repair_Weights) (r : Int × Int) (h : repair_Cost n a0 a1 a2 a3 = some r) :
 call Try.prog T H (.fn 20) [.p (.agg [.sl none 1 (List.map rowI a0.Ranks)]), .p (.agg [iv a1.States, .sl none 1 (List.map rowI a1.Final), .sl none 3 (List.map row_Rule a1.Rules)]), .p (.agg [iv a2.Sym, .sl none 2 (List.map row_Tree a2.Kids)]), .p (.agg [iv a3.Relabel, iv a3.Remove, iv a3.Insert])] [] = some (.ret (.p (.tup [iv r.1, iv r.2])), []) := by
 refine Sat.fn fun Q hQ => ?_
 unfold repair_Cost at h
 rw [call20]
 conv => arg 1; arg 7; unfold S22.c20 Try.f20; simp only [Option.getD_some]
 obtain ⟨v1, e_v1, h⟩ := ob h
 have e_v1c := spec52 n a0 a1 a2 a3 v1 e_v1
 simp only [go_sem, e_v1c]
 injection h with h; subst h
 exact Sat.ok hQ
end Go.AM.S22

namespace Go.AM.S22
open Go Go.Proofs Go.AM
set_option linter.unusedVariables false
set_option maxRecDepth 100000
set_option maxHeartbeats 4000000
namespace Tab
open Go Go.Proofs Go.AM Go.AM.S22
def pl : PS → List Int
 | none => []
 | some (_, o, l) => o.take l
def pk : PS → Prop
 | none => True
 | some (_, o, l) => l ≤ o.length
structure TB (a : Automaton) (v : List Int) (R M I : Int) (tb : repair_table) (c : Nat) : Prop where
 a : tb.a = a
 w : tb.w = ⟨R, M, I⟩
 size : tb.size = v
 cost : tb.cost.length = c
 kids : tb.kids.length = c
 tree : tb.tree.length = c
theorem snoc_get {α : Type} {l : List α} {x : α} {c : Nat} (h : l.length = c) : (l ++ [x])[c]? = some x := by
 rw [List.getElem?_append_right (by omega), h, Nat.sub_self]; rfl
section
variable {a : Automaton} {v : List Int} {R M I : Int} {n : Nat}
theorem stp_eq (ha : OKa a) (hv : ZV a.States.toNat v) (w : WOk R M I) {u : Tree} (hd : tdT u < n) (hs : tsT u ≤ 80) {p : PS} (hp : pk p) {tb : repair_table} {c : Nat} (ht : TB a v R M I tb c) (hc : c ≤ 500)
 {base roots : List Int} (hb : base.length ≤ 500) (he : pl p = base ++ roots) (hk : KR (cosT a v R M I) tb.cost roots u.Kids) :
 ∃ q, stp n a ⟨R, M, I⟩ (c : Int) u (p, tb) = some (q, ⟨tb.a, tb.w, tb.size, tb.cost ++ [cosT a v R M I u], tb.kids ++ [roots], tb.tree ++ [u]⟩) ∧ pk q ∧ q ≠ none ∧ pl q = base ++ [(c : Int)] := by
 have hst := ha.st
 have hlk := tlen u.Kids
 have hts := tsT_eq u
 have hkl := hk.1
 have hmk : mkz 8 a.States a.States (0 : Int) = some (List.replicate a.States.toNat 0) := mk8_eq ha
 have hsz := tree_Size_eq n u hd (by omega)
 have hcv := cosT_CV hv w u
 have hall : allM 0 a.States.toNat (cosT a v R M I u) = some (cosT a v R M I u) := by
  unfold allM
  rw [if_pos (by rw [hcv.len]; omega), List.drop_zero, List.take_of_length_le (by rw [hcv.len]; exact Nat.le_refl _)]
 have hrow : ∀ {Rr : Type} (K : List Int → Option Rr), _ := fun {Rr} K => rows_eq (Rr := Rr) ha (C := cosT a v R M I) (tb := ⟨tb.a, tb.w, tb.size, tb.cost, tb.kids ++ [roots], tb.tree ++ [u]⟩) (u := u) (roots := roots) (c := c) (n := n) hk (fun t _ => cosT_CV hv w t) (snoc_get ht.tree) (snoc_get ht.kids) hs (by rw [ht.size]; exact hv) (by rw [ht.w]; exact w.r) (by rw [ht.w]; exact w.m) (by rw [ht.w]; exact w.i) K
 have hw : tb.w.Remove = M := by rw [ht.w]
 have hcos : rowC a tb.size tb.w.Relabel tb.w.Remove tb.w.Insert u.Sym (tsT u) (u.Kids.map (cosT a v R M I)) = cosT a v R M I u := by
  rw [cosT_eq, cosL_map, ht.size, ht.w]
 rw [hw] at hcos
 dsimp only at hrow
 rcases p with _ | ⟨g, o, l⟩
 ·have h0 : base = [] ∧ roots = [] := List.append_eq_nil_iff.1 he.symm
  obtain ⟨rfl, rfl⟩ := h0
  have hk0 : u.Kids.length = 0 := hkl.symm
  have e0 : tabRow0 n a ⟨R, M, I⟩ tb (c : Int) u = some (([(c : Int)], 1), ⟨tb.a, tb.w, tb.size, tb.cost ++ [cosT a v R M I u], tb.kids ++ [[]], tb.tree ++ [u]⟩) := by
   unfold tabRow0
   rw [app_ok (by simp; have := ht.tree; omega), Option.bind_some, hk0]
   have hcut : cutM 0 (w64 (0 - ((0 : Nat) : Int))) = some 0 := rfl
   rw [hcut, Option.bind_some, app_ok (by simp; have := ht.kids; omega), Option.bind_some]
   have happ : appM 8 0 ([] : List Int) [(c : Int)] = some [(c : Int)] := rfl
   rw [happ, Option.bind_some, hmk, Option.bind_some, hsz, Option.bind_some]
   have := hrow fun s2 => (allM 0 ((a.States).toNat) s2).bind fun v7 => (app 24 tb.cost [v7]).bind fun v8 => some (([(c : Int)], 1), (repair_table.mk tb.a tb.w tb.size v8 (tb.kids ++ [[]]) (tb.tree ++ [u])))
   rw [hw] at this
   dsimp only at this ⊢
   rw [this, hcos, hall, Option.bind_some, app_ok (by simp; have := ht.cost; omega)]; rfl
  exact ⟨_, by unfold stp; simp only []; rw [e0]; rfl, by simp [pk], by simp, by simp [pl]⟩
 ·simp only [pk] at hp
  simp only [pl] at he
  have hlen := congrArg List.length he
  rw [List.length_take, List.length_append] at hlen
  have hl : l = base.length + u.Kids.length := by omega
  have htk : o.take base.length = base := by
   have : (o.take l).take base.length = base := by rw [he, List.take_left']; rfl
   rw [List.take_take, show min base.length l = base.length by omega] at this
   exact this
  have hcl : slices_Clone_q o (l - base.length) base.length = some roots := by
   unfold slices_Clone_q
   rw [if_pos (by omega)]
   have : (o.take l).drop base.length = roots := by rw [he, List.drop_left']; rfl
   rw [List.drop_take] at this
   rw [this]
  have e0 : tabRow n a ⟨R, M, I⟩ tb (c : Int) u o l = some ((base ++ [(c : Int)], base.length + 1), ⟨tb.a, tb.w, tb.size, tb.cost ++ [cosT a v R M I u], tb.kids ++ [roots], tb.tree ++ [u]⟩) := by
   unfold tabRow
   rw [app_ok (by simp; have := ht.tree; omega), Option.bind_some, cut_eq hl hb (by omega), Option.bind_some, hcl, Option.bind_some, app_ok (by simp; have := ht.kids; omega), Option.bind_some]
   have happ : appM 8 base.length o [(c : Int)] = some (base ++ [(c : Int)]) := by
    unfold appM
    rw [if_pos (by simp; omega), htk]
   rw [happ, Option.bind_some, hmk, Option.bind_some, hsz, Option.bind_some]
   have := hrow fun s2 => (allM 0 ((a.States).toNat) s2).bind fun v8 => (app 24 tb.cost [v8]).bind fun v9 => some ((base ++ [(c : Int)], base.length + 1), (repair_table.mk tb.a tb.w tb.size v9 (tb.kids ++ [roots]) (tb.tree ++ [u])))
   rw [hw] at this
   dsimp only at this ⊢
   rw [this, hcos, hall, Option.bind_some, app_ok (by simp; have := ht.cost; omega)]; rfl
  refine ⟨_, by unfold stp; simp only []; rw [e0]; rfl, by simp [pk], by simp, ?_⟩
  simp only [pl]
  rw [List.take_of_length_le (by simp)]
theorem walk_eq (ha : OKa a) (hv : ZV a.States.toNat v) (w : WOk R M I) : ∀ (k : Nat) (t : Tree) (p : PS) (tb : repair_table) (c : Nat), tdT t < k → tdT t < n → tsT t ≤ 80 → pk p → TB a v R M I tb c → (pl p).length + tsT t ≤ 500 → c + tsT t ≤ 500 →
 ∃ q tb', walk n a ⟨R, M, I⟩ k t ((p, tb), (c : Int)) = some ((q, tb'), ((c + tsT t : Nat) : Int)) ∧ pk q ∧ q ≠ none ∧ pl q = pl p ++ [((c + tsT t - 1 : Nat) : Int)] ∧ TB a v R M I tb' (c + tsT t) ∧ (∃ ext, tb'.cost = tb.cost ++ ext) ∧ tb'.cost[c + tsT t - 1]? = some (cosT a v R M I t) := by
 intro k
 induction k with
 | zero => intro t p tb c h; omega
 | succ k ih =>
  intro t p tb c hd hn hs hp hT hb hcb
  have hkl := tlen t.Kids
  have hts := tsT_eq t
  have htd := tdT_eq t
  rw [walk, rangeL, if_pos (by omega)]
  suffices H : ∀ (l : List Tree) (i : Nat) (p : PS) (tb : repair_table) (c : Nat) (K : TS × Int → Option (TS × Int)), (∀ x ∈ l, x ∈ t.Kids) → pk p → TB a v R M I tb c → (pl p).length + tsL l ≤ 500 → c + tsL l ≤ 500 →
   ∃ q tb' roots, rangeC (fun (_ : Nat) x1 s1 n1 => (walk n a ⟨R, M, I⟩ k x1 s1).bind fun v => n1 v) l i ((p, tb), (c : Int)) K = K ((q, tb'), ((c + tsL l : Nat) : Int)) ∧ pk q ∧ pl q = pl p ++ roots ∧ TB a v R M I tb' (c + tsL l) ∧ (∃ ext, tb'.cost = tb.cost ++ ext) ∧ KR (cosT a v R M I) tb'.cost roots l by
   obtain ⟨q, tb', roots, h1, h2, h3, h4, ⟨ext, h5⟩, h6⟩ := H t.Kids 0 p tb c _ (fun _ h => h) hp hT (by omega) (by omega)
   obtain ⟨q2, e1, e2, e3, e4⟩ := stp_eq (n := n) ha hv w (u := t) hn hs h2 h4 (by omega) (base := pl p) (by omega) h3 h6
   rw [h1]
   dsimp only
   rw [w64_eq (n := ((c + tsL t.Kids : Nat) : Int) + 1) (by omega) (by omega), w64_eq (by omega) (by omega), show ((c + tsL t.Kids : Nat) : Int) + 1 - 1 = ((c + tsL t.Kids : Nat) : Int) by omega, e1, Option.bind_some]
   refine ⟨q2, ⟨tb'.a, tb'.w, tb'.size, tb'.cost ++ [cosT a v R M I t], tb'.kids ++ [roots], tb'.tree ++ [t]⟩, ?_, e2, e3, ?_, ⟨h4.a, h4.w, h4.size, by simp [h4.cost]; omega, by simp [h4.kids]; omega, by simp [h4.tree]; omega⟩, ⟨ext ++ [cosT a v R M I t], ?_⟩, ?_⟩
   ·congr 3; omega
   ·rw [e4]; congr 3; omega
   ·show tb'.cost ++ _ = _
    rw [h5, List.append_assoc]
   ·show (tb'.cost ++ [cosT a v R M I t])[_]? = _
    exact snoc_get (by rw [h4.cost]; omega)
  intro l
  induction l with
  | nil =>
   intro i p tb c K _ hp hT _ _
   exact ⟨p, tb, [], by rw [rangeC]; simp [tsL], hp, by simp, by simpa [tsL] using hT, ⟨[], by simp⟩, rfl, fun i k t h => by simp at h⟩
  | cons x l ihl =>
   intro i p tb c K hm hp hT hb hc
   have hx := td_mem (hm x (by simp))
   have hx2 := ts_mem (hm x (by simp))
   have hx3 := tsT_eq x
   rw [tsL] at hb hc
   obtain ⟨q, tb1, e1, e2, e3, e4, e5, ⟨ext, e6⟩, e7⟩ := ih x p tb c (by omega) (by omega) (by omega) hp hT (by omega) (by omega)
   have hq : (pl q).length = (pl p).length + 1 := by rw [e4]; simp
   obtain ⟨q2, tb2, roots, f1, f2, f3, f4, ⟨ext2, f5⟩, f6⟩ := ihl (i + 1) q tb1 (c + tsT x) K (fun y hy => hm y (List.mem_cons_of_mem _ hy)) e2 e5 (by omega) (by omega)
   refine ⟨q2, tb2, ((c + tsT x - 1 : Nat) : Int) :: roots, ?_, f2, ?_, ?_, ⟨ext ++ ext2, by rw [f5, e6, List.append_assoc]⟩, by simp [f6.1], fun j k' t' hk ht => ?_⟩
   ·rw [rangeC, e1]
    refine Eq.trans f1 ?_
    rw [tsL, Nat.add_assoc]
   ·rw [f3, e4, List.append_assoc]; rfl
   ·rw [tsL, ← Nat.add_assoc]; exact f4
   ·cases j with
    | zero =>
     simp at hk ht
     subst hk; subst ht
     unfold idx
     rw [if_pos (by omega), f5]
     have := e7
     rw [show (((c + tsT x - 1 : Nat) : Int)).toNat = c + tsT x - 1 by omega, List.getElem?_append_left (List.getElem?_eq_some_iff.1 this).1]
     exact this
    | succ j => exact f6.2 j k' t' (by simpa using hk) (by simpa using ht)
theorem tableOf_eq (ha : OKa a) (hv : ZV a.States.toNat v) (w : WOk R M I) {r : List Int} {t : Tree} (hS : empty_Sizes ⟨r⟩ a = some (v, 0)) (hd : tdT t < n) (hs : tsT t ≤ 80) :
 ∃ tb, repair_tableOf n ⟨r⟩ a t ⟨R, M, I⟩ = some (tb, 0) ∧ TB a v R M I tb (tsT t) ∧ tb.cost[tsT t - 1]? = some (cosT a v R M I t) := by
 have h1 := tsT_eq t
 obtain ⟨q, tb, e1, e2, e3, e4, e5, e6, e7⟩ := walk_eq (n := n) ha hv w n t none ⟨a, ⟨R, M, I⟩, v, [], [], []⟩ 0 hd hd hs trivial ⟨rfl, rfl, rfl, rfl, rfl, rfl⟩ (by simp [pl]; omega) (by omega)
 rw [Nat.zero_add] at e5 e7
 unfold repair_tableOf
 rw [hS, Option.bind_some, if_pos rfl]
 dsimp only
 rw [show ((0 : Nat) : Int) = 0 from rfl] at e1
 rw [e1, Option.bind_some]
 cases q with
 | none => exact absurd rfl e3
 | some q => exact ⟨tb, rfl, e5, e7⟩
end
end Tab
end Go.AM.S22

namespace Go.AM.S22
open Go Go.Proofs Go.AM
set_option linter.unusedVariables false
set_option maxRecDepth 100000
set_option maxHeartbeats 4000000
namespace Tab
open Go Go.Proofs Go.AM Go.AM.S22
theorem gz_set {v : List Int} {s q n : Int} (hs : 0 ≤ s) (hl : s < v.length) (hq : 0 ≤ q) : gz (v.set s.toNat n) q = if q = s then n else gz v q := Sz.gv_set hs hl hq
theorem min_fold {m : Nat} {R sym : Int} {kids : List (List Int)} (hk : ∀ c ∈ kids, CV m c) (hr : -1 ≤ R ∧ R ≤ 1000) {s : Int} (h0 : 0 ≤ s) : ∀ (l : List Rule) (row : List Int), CV m row → (∀ x ∈ l, 0 ≤ x.To ∧ x.To < (m : Int)) →
 gz (l.foldl (stC R sym kids) row) s ≤ gz row s ∧ ∀ x ∈ l, x.To = s → gz (l.foldl (stC R sym kids) row) s ≤ keepC R sym kids x
 | [], row, _, _ => ⟨Int.le_refl _, fun x h => by cases h⟩
 | y :: l, row, h, hto => by
  have hy := hto y (by simp)
  obtain ⟨i1, i2⟩ := min_fold hk hr h0 l _ (stC_CV hk hr h y) fun x hx => hto x (List.mem_cons_of_mem _ hx)
  have hg : gz (stC R sym kids row y) s = if s = y.To then min (gz row y.To) (keepC R sym kids y) else gz row s := gz_set hy.1 (by rw [h.len]; exact hy.2) h0
  rw [List.foldl_cons]
  rw [hg] at i1
  refine ⟨?_, fun x hx he => ?_⟩
  ·refine Int.le_trans i1 ?_
   split
   ·rename_i e; rw [e]; omega
   ·omega
  ·rcases List.mem_cons.1 hx with rfl | hx
   ·refine Int.le_trans i1 ?_
    rw [if_pos he.symm]; omega
   ·exact i2 x hx he
theorem derL_len {Rs : List Rule} : ∀ {ks : List Tree} {f : List Int}, Sz.DerL Rs ks f → ks.length = f.length
 | _, _, .nil => rfl
 | _, _, .cons _ h => by simp [derL_len h]
section
variable {a : Automaton} {v : List Int} {R M I : Int}
theorem ini_le (hv : ZV a.States.toNat v) (w : WOk R M I) (hL : Sz.Low a.Rules v) {u : Tree} {s : Int} (hd : Sz.Der a.Rules u s) (hs : tsT u ≤ 80) (h0 : 0 ≤ s) (h1 : s < (a.States.toNat : Int)) (size : Nat) :
 gz (v.map fun n => min (M * (size : Int) + newsC I n) FAR) s ≤ M * size + I * tsT u := by
 have hg : gz (v.map fun n => min (M * (size : Int) + newsC I n) FAR) s = min (M * (size : Int) + newsC I (gz v s)) FAR := by
  unfold gz
  rw [List.getElem?_map, List.getElem?_eq_getElem (by rw [hv.len]; omega)]; rfl
 obtain ⟨l1, l2⟩ := hL u s hd
 rw [gv_gz] at l1 l2
 have hcap : Sz.capI (tsT u) = tsT u := by unfold Sz.capI; rw [if_pos (by omega)]
 rw [hcap] at l2
 have hz := hv.gz s
 have hi := mul_bd w.i (tsT u)
 rw [hg]
 have : newsC I (gz v s) ≤ I * tsT u := by
  unfold newsC
  rw [if_neg l1]
  split
  ·omega
  ·rw [if_neg (by omega), Int.mul_comm]
   exact Int.mul_le_mul_of_nonneg_left l2 w.i.1
 omega
mutual
theorem low_cost (ha : OKa a) (hv : ZV a.States.toNat v) (w : WOk R M I) (hL : Sz.Low a.Rules v) : ∀ (t u : Tree) (s : Int), Sz.Der a.Rules u s → tsT u ≤ 80 → gz (cosT a v R M I t) s ≤ dT R M I t u
 | .mk b ks, u, s, hd, hs => by
  have hst := ha.st
  cases hd with
  | @mk x qs hx hk =>
   have hto := ha.to x hx
   have hd : Sz.Der a.Rules (.mk x.Sym qs) x.To := .mk hx hk
   have hini := ini_le hv w hL hd hs hto.1 (by omega) (tsT (.mk b ks))
   have hcv := cosL_CV (R := R) (M := M) (I := I) hv w ks
   obtain ⟨f1, f2⟩ := min_fold hcv w.r (sym := b) hto.1 a.Rules _ (ini_CV hv w.m w.i (tsT (.mk b ks))) fun y hy => by have := ha.to y hy; omega
   have hfl : qs.length = x.From.length := derL_len hk
   rw [dT, cosT, rowC]
   by_cases c : ks.length = qs.length ∧ (b = x.Sym ∨ 0 ≤ R)
   ·rw [if_pos c]
    have h1 := f2 x hx rfl
    have h2 : keepC R b (cosL a v R M I ks) x = sumC (cosL a v R M I ks) x.From (if x.Sym = b then 0 else R) := by
     unfold keepC
     rw [if_neg (fun h => c.2.elim (fun e => h.1 e.symm) (fun e => by omega)), if_pos (by rw [cosL_map, List.length_map]; omega)]
    have hts : tsL qs ≤ 80 := by rw [tsT] at hs; omega
    have h3 := low_costL ha hv w hL ks qs x.From (if x.Sym = b then 0 else R) hk hts c.1
    rw [h2] at h1
    have h4 : (if x.Sym = b then 0 else R) = (if b = x.Sym then 0 else R) := by
     by_cases e : b = x.Sym
     ·rw [if_pos e.symm, if_pos e]
     ·rw [if_neg (fun h => e h.symm), if_neg e]
    rw [h4] at h1 h3
    show _ ≤ min _ (_ + dL R M I ks qs)
    exact Int.le_min.2 ⟨Int.le_trans f1 hini, Int.le_trans h1 h3⟩
   ·rw [if_neg c]
    exact Int.le_trans f1 hini
theorem low_costL (ha : OKa a) (hv : ZV a.States.toNat v) (w : WOk R M I) (hL : Sz.Low a.Rules v) : ∀ (ks qs : List Tree) (f : List Int) (s : Int), Sz.DerL a.Rules qs f → tsL qs ≤ 80 → ks.length = qs.length → sumC (cosL a v R M I ks) f s ≤ s + dL R M I ks qs
 | [], [], f, s, h, _, _ => by
  cases h
  rw [cosL, sumC, dL]
  ·omega
  all_goals (intros; contradiction)
 | [], _ :: _, _, _, _, _, h => by cases h
 | _ :: _, [], _, _, _, _, h => by cases h
 | k :: ks, q :: qs, f, s, h, hs, hl => by
  cases h with
  | @cons _ _ y f h1 h2 =>
   rw [tsL] at hs
   have i1 := low_cost ha hv w hL k q y h1 (by omega)
   have i2 := low_costL ha hv w hL ks qs f (min (s + gz (cosT a v R M I k) y) FAR) h2 (by omega) (by simpa using hl)
   rw [cosL, sumC, dL]
   omega
end
def Best (a : Automaton) (v C : List Int) (q : Int × Int) : Prop :=
 (q.1 = -1 ∧ ∀ s ∈ a.Final, ¬ 0 < gz v s) ∨ (q.1 ∈ a.Final ∧ 0 ≤ q.1 ∧ 0 < gz v q.1 ∧ q.2 = gz C q.1 ∧ ∀ s ∈ a.Final, 0 < gz v s → q.2 ≤ gz C s)
theorem best_eq (ha : OKa a) (hv : ZV a.States.toNat v) {C : List Int} (hC : CV a.States.toNat C) {tb : repair_table} {c : Nat} (hT : TB a v R M I tb c) (hc : 1 ≤ c ∧ c ≤ 500) (hl : tb.cost[c - 1]? = some C) :
 ∃ q, repair_table_best_p tb = some q ∧ Best a v C q := by
 have hst := ha.st
 have hfl := ha.fin
 have hix : idx tb.cost (w64 ((tb.cost.length : Int) - 1)) = some C := by
  rw [hT.cost, w64_eq (by omega) (by omega)]
  unfold idx
  rw [if_pos (by omega), show ((c : Int) - 1).toNat = c - 1 by omega, hl]
 have H : ∀ (body : Nat → Int → Int × Int → (Int × Int → Option (Int × Int)) → Option (Int × Int)), (∀ i x q n1, 0 ≤ x → x < a.States → body i x q n1 = if 0 < gz v x then (if q.1 < 0 then n1 (x, gz C x) else if gz C x < q.2 then n1 (x, gz C x) else n1 (q.1, q.2)) else n1 (q.1, q.2)) →
  ∀ (l p : List Int) (i : Nat) (q : Int × Int) (K : Int × Int → Option (Int × Int)), (∀ s ∈ l, 0 ≤ s ∧ s < a.States) → (∀ s ∈ p, 0 ≤ s ∧ s < a.States) →
  ((q.1 = -1 ∧ ∀ s ∈ p, ¬ 0 < gz v s) ∨ (q.1 ∈ p ∧ 0 ≤ q.1 ∧ 0 < gz v q.1 ∧ q.2 = gz C q.1 ∧ ∀ s ∈ p, 0 < gz v s → q.2 ≤ gz C s)) →
  ∃ q', rangeC body l i q K = K q' ∧ ((q'.1 = -1 ∧ ∀ s ∈ p ++ l, ¬ 0 < gz v s) ∨ (q'.1 ∈ p ++ l ∧ 0 ≤ q'.1 ∧ 0 < gz v q'.1 ∧ q'.2 = gz C q'.1 ∧ ∀ s ∈ p ++ l, 0 < gz v s → q'.2 ≤ gz C s)) := by
  intro body hb l
  induction l with
  | nil => intro p i q K _ _ h; exact ⟨q, rfl, by simpa using h⟩
  | cons x l ih =>
   intro p i q K hx hp h
   have hx0 := hx x (by simp)
   have key : ∀ q' : Int × Int, ((q'.1 = -1 ∧ ∀ s ∈ p ++ [x], ¬ 0 < gz v s) ∨ (q'.1 ∈ p ++ [x] ∧ 0 ≤ q'.1 ∧ 0 < gz v q'.1 ∧ q'.2 = gz C q'.1 ∧ ∀ s ∈ p ++ [x], 0 < gz v s → q'.2 ≤ gz C s)) → _ := fun q' hq => ih (p ++ [x]) (i + 1) q' K (fun s hs => hx s (List.mem_cons_of_mem _ hs)) (fun s hs => by
    rcases List.mem_append.1 hs with hs | hs
    ·exact hp s hs
    ·rw [List.mem_singleton.1 hs]; exact hx0) hq
   simp only [List.append_assoc, List.singleton_append] at key
   rw [rangeC, hb _ _ _ _ hx0.1 hx0.2]
   have memx : ∀ s, s ∈ p ++ x :: [] ↔ s ∈ p ∨ s = x := fun s => by simp
   by_cases c1 : 0 < gz v x
   ·rw [if_pos c1]
    by_cases c2 : q.1 < 0
    ·rw [if_pos c2]
     refine key (x, gz C x) (.inr ⟨by simp, hx0.1, c1, rfl, fun s hs h0 => ?_⟩)
     rcases (memx s).1 hs with hs | rfl
     ·rcases h with ⟨_, h⟩ | ⟨_, h, _⟩
      ·exact absurd h0 (h s hs)
      ·omega
     ·exact Int.le_refl _
    ·rw [if_neg c2]
     rcases h with ⟨h, _⟩ | ⟨h1, h2, h3, h4, h5⟩
     ·omega
     ·by_cases c3 : gz C x < q.2
      ·rw [if_pos c3]
       refine key (x, gz C x) (.inr ⟨by simp, hx0.1, c1, rfl, fun s hs h0 => ?_⟩)
       rcases (memx s).1 hs with hs | rfl
       ·have := h5 s hs h0
        show gz C x ≤ _
        omega
       ·exact Int.le_refl _
      ·rw [if_neg c3]
       refine key (q.1, q.2) (.inr ⟨by simp [h1], h2, h3, h4, fun s hs h0 => ?_⟩)
       rcases (memx s).1 hs with hs | rfl
       ·exact h5 s hs h0
       ·show q.2 ≤ _; omega
   ·rw [if_neg c1]
    refine key (q.1, q.2) ?_
    rcases h with ⟨h, h'⟩ | ⟨h1, h2, h3, h4, h5⟩
    ·refine .inl ⟨h, fun s hs => ?_⟩
     rcases (memx s).1 hs with hs | rfl
     ·exact h' s hs
     ·exact c1
    ·refine .inr ⟨by simp [h1], h2, h3, h4, fun s hs h0 => ?_⟩
     rcases (memx s).1 hs with hs | rfl
     ·exact h5 s hs h0
     ·exact absurd h0 c1
 obtain ⟨q', h1, h2⟩ := H (fun k1 x1 (s1 : Int × Int) n1 =>
  (idx tb.size x1).bind fun v1 =>
  if 0 < v1 then
   if s1.1 < 0 then
    (idx tb.cost (w64 ((tb.cost.length : Int) - 1))).bind fun v2 =>
    (idx v2 x1).bind fun v3 =>
    n1 (x1, v3)
   else
    (idx tb.cost (w64 ((tb.cost.length : Int) - 1))).bind fun v4 =>
    (idx v4 x1).bind fun v5 =>
    if v5 < s1.2 then
     n1 (x1, v5)
    else
     n1 (s1.1, s1.2)
  else
   n1 (s1.1, s1.2)) (fun i x q n1 h0 h1 => by
  have e1 : idx tb.size x = some (gz v x) := by rw [hT.size]; exact idx_get hv.len h0 (by omega)
  have e2 : idx C x = some (gz C x) := hC.idx h0 (by omega)
  rw [e1, Option.bind_some, hix]
  simp only [Option.bind_some, e2]) a.Final [] 0 (-1, 0) (fun s1 => some (s1.1, s1.2)) (fun s hs => ha.fins s hs) (fun s h => by cases h) (.inl ⟨rfl, fun s h => by cases h⟩)
 refine ⟨q', ?_, by simpa [Best] using h2⟩
 unfold repair_table_best_p
 rw [rangeL, hT.a, if_pos (by omega)]
 exact h1
end
def wB (R M I : Int) : Bool := decide (-1 ≤ R ∧ R ≤ 1000 ∧ 0 ≤ M ∧ M ≤ 1000 ∧ 0 ≤ I ∧ I ≤ 1000)
theorem fits_1 (x y : Int) : repair_fits_1 x y = some (decide (y ≤ x ∧ x ≤ 1000)) := by
 unfold repair_fits_1
 by_cases c : y ≤ x
 ·rw [if_pos c]; simp [c]
 ·rw [if_neg c]; simp [c]
theorem fits_eq (R M I : Int) : repair_fits ⟨R, M, I⟩ = some (wB R M I) := by
 unfold repair_fits wB
 simp only [fits_1, Option.bind_some, decide_eq_true_eq]
 by_cases c1 : -1 ≤ R ∧ R ≤ 1000
 ·rw [if_pos c1]
  by_cases c2 : 0 ≤ M ∧ M ≤ 1000
  ·rw [if_pos c2]
   congr 1
   by_cases c3 : 0 ≤ I ∧ I ≤ 1000
   ·rw [decide_eq_true c3, decide_eq_true (by omega)]
   ·rw [decide_eq_false c3, decide_eq_false (by omega)]
  ·rw [if_neg c2, decide_eq_false (by omega)]
 ·rw [if_neg c1, decide_eq_false (by omega)]
theorem wok_of {R M I : Int} (h : wB R M I = true) : WOk R M I := by
 unfold wB at h
 have := of_decide_eq_true h
 exact ⟨by omega, by omega, by omega⟩
theorem Cost_eq {n : Nat} {r : List Int} {a : Automaton} {t : Tree} {R M I : Int} (w : AW a) (hd : tdT t < n) (hw : twT t = true) (ha : aV r a = true → OKa a) (hs : tsT t ≤ 80) :
 ∃ c e, repair_Cost n ⟨r⟩ a t ⟨R, M, I⟩ = some (c, e) ∧ (aV r a = true → tvld r t = true → wB R M I = true → ∃ v, ZV a.States.toNat v ∧ Sz.Good a.Rules a.States.toNat v ∧ Sz.Low a.Rules v ∧ ∃ q, Best a v (cosT a v R M I t) q ∧
  ((q.1 < 0 ∧ c = 0 ∧ e = 5) ∨ (0 ≤ q.1 ∧ 1099511627776 < q.2 ∧ c = 0 ∧ e = 3) ∨ (0 ≤ q.1 ∧ q.2 ≤ 1099511627776 ∧ c = q.2 ∧ e = 0))) := by
 unfold repair_Cost repair_checked
 rw [auto_eq r a w, Option.bind_some]
 by_cases c1 : aV r a = true
 ·rw [if_pos c1, tvalid_eq r hd hw, Option.bind_some]
  by_cases c2 : tvld r t = true
  ·rw [if_pos c2, fits_eq, Option.bind_some]
   by_cases c3 : wB R M I = true
   ·have hA := ha c1
    have hW := wok_of c3
    obtain ⟨v, hv1, hv2, hv3, hv4⟩ := sizes_low hA
    have hS : empty_Sizes ⟨r⟩ a = some (v, 0) := by
     unfold empty_Sizes
     rw [auto_eq r a w, Option.bind_some, if_pos c1, hv1]; rfl
    obtain ⟨tb, e1, e2, e3⟩ := tableOf_eq (n := n) hA hv2 hW hS hd hs
    have hts := tsT_eq t
    obtain ⟨q, q1, q2⟩ := best_eq hA hv2 (cosT_CV hv2 hW t) e2 (by omega) e3
    rw [if_pos c3, e1, Option.bind_some, if_pos rfl, q1, Option.bind_some]
    by_cases d1 : q.1 < 0
    ·rw [if_pos d1]
     exact ⟨0, 5, rfl, fun _ _ _ => ⟨v, hv2, hv3, hv4, q, q2, .inl ⟨d1, rfl, rfl⟩⟩⟩
    ·rw [if_neg d1]
     by_cases d2 : 1099511627776 < q.2
     ·rw [if_pos d2]
      exact ⟨0, 3, rfl, fun _ _ _ => ⟨v, hv2, hv3, hv4, q, q2, .inr (.inl ⟨by omega, d2, rfl, rfl⟩)⟩⟩
     ·rw [if_neg d2]
      exact ⟨q.2, 0, rfl, fun _ _ _ => ⟨v, hv2, hv3, hv4, q, q2, .inr (.inr ⟨by omega, by omega, rfl, rfl⟩)⟩⟩
   ·rw [if_neg c3]
    exact ⟨0, 6, rfl, fun _ _ h => absurd h c3⟩
  ·rw [if_neg c2]
   exact ⟨0, 1, rfl, fun _ h _ => absurd h c2⟩
 ·rw [if_neg c1]
  exact ⟨0, 1, rfl, fun h => absurd h c1⟩
theorem Distance_eq {n : Nat} {r : List Int} {t u : Tree} {R M I : Int} (hd : tdT t + 1 < n) (hd' : tdT u + 1 < n) (hw : twT t = true) (hw' : twT u = true) (hs : tsT t ≤ 80) (hs' : tsT u ≤ 80) :
 repair_Distance n ⟨r⟩ t u ⟨R, M, I⟩ = some (if tvld r t = true ∧ tvld r u = true then (if wB R M I = true then (dT R M I t u, 0) else (0, 6)) else (0, 1)) := by
 unfold repair_Distance
 rw [tvalid_eq r (by omega) hw, Option.bind_some]
 by_cases c1 : tvld r t = true
 ·rw [if_pos c1, tvalid_eq r (by omega) hw', Option.bind_some]
  by_cases c2 : tvld r u = true
  ·rw [if_pos c2, if_pos ⟨c1, c2⟩, fits_eq, Option.bind_some]
   by_cases c3 : wB R M I = true
   ·rw [if_pos c3, if_pos c3, distance_eq (wok_of c3) n t u hd hd' hs hs']; rfl
   ·rw [if_neg c3, if_neg c3]
  ·rw [if_neg c2, if_neg (fun h => c2 h.2)]
 ·rw [if_neg c1, if_neg (fun h => c1 h.1)]
end Tab
end Go.AM.S22

namespace Go.AM.S22
open Go Go.Proofs Go.AM
set_option linter.unusedVariables false
set_option maxRecDepth 100000
set_option maxHeartbeats 4000000
namespace Tab
open Go Go.Proofs Go.AM Go.AM.S22
mutual
theorem dT_self {R M I : Int} (w : WOk R M I) : ∀ t : Tree, dT R M I t t = 0
 | .mk s ks => by
  have h1 := mul_bd w.m (tsT (.mk s ks))
  have h2 := mul_bd w.i (tsT (.mk s ks))
  rw [dT, if_pos ⟨rfl, .inl rfl⟩, if_pos rfl]
  show min _ (0 + dL R M I ks ks) = 0
  rw [dL_self w ks]
  omega
theorem dL_self {R M I : Int} (w : WOk R M I) : ∀ ks : List Tree, dL R M I ks ks = 0
 | [] => by rw [dL]
 | k :: ks => by rw [dL, dT_self w k, dL_self w ks]; rfl
end
mutual
theorem dT_symm {R M : Int} : ∀ t u : Tree, dT R M M t u = dT R M M u t
 | .mk s ks, .mk b qs => by
  rw [dT, dT]
  show (if ks.length = qs.length ∧ (s = b ∨ 0 ≤ R) then _ else _) = (if qs.length = ks.length ∧ (b = s ∨ 0 ≤ R) then _ else _)
  by_cases c : ks.length = qs.length ∧ (s = b ∨ 0 ≤ R)
  ·rw [if_pos c, if_pos (show qs.length = ks.length ∧ (b = s ∨ 0 ≤ R) from ⟨c.1.symm, c.2.imp Eq.symm id⟩)]
   show min _ ((if s = b then 0 else R) + dL R M M ks qs) = min _ ((if b = s then 0 else R) + dL R M M qs ks)
   rw [dL_symm ks qs, Int.add_comm (M * _)]
   have : (if s = b then 0 else R) = (if b = s then 0 else R) := by
    by_cases e : s = b
    ·rw [if_pos e, if_pos e.symm]
    ·rw [if_neg e, if_neg (fun h => e h.symm)]
   rw [this]
  ·rw [if_neg c, if_neg (show ¬ (qs.length = ks.length ∧ (b = s ∨ 0 ≤ R)) from fun h => c ⟨h.1.symm, h.2.imp Eq.symm id⟩), Int.add_comm]
theorem dL_symm {R M : Int} : ∀ ks qs : List Tree, dL R M M ks qs = dL R M M qs ks
 | [], [] => rfl
 | [], _ :: _ => by rw [dL, dL]
 | _ :: _, [] => by rw [dL, dL]
 | k :: ks, q :: qs => by rw [dL, dL, dT_symm k q, dL_symm ks qs]
end
mutual
theorem dT_grow {R M : Int} (hr : 0 ≤ R) (hm : 0 ≤ M) : ∀ t u : Tree, M * (tsT u : Int) ≤ M * (tsT t : Int) + dT R M M t u
 | .mk s ks, .mk b qs => by
  have h1 := Int.mul_nonneg hm (Int.natCast_nonneg (tsT (.mk s ks)))
  rw [dT]
  split
  ·rename_i c
   have h2 := dL_grow hr hm ks qs c.1
   have e1 : M * (tsT (.mk b qs) : Int) = M + M * (tsL qs : Int) := by rw [tsT, Int.natCast_add, Int.mul_add]; simp
   have e2 : M * (tsT (.mk s ks) : Int) = M + M * (tsL ks : Int) := by rw [tsT, Int.natCast_add, Int.mul_add]; simp
   have h3 : 0 ≤ (if s = (Tree.mk b qs).Sym then 0 else R) := by split <;> omega
   show _ ≤ _ + min _ (_ + dL R M M ks qs)
   omega
  ·omega
theorem dL_grow {R M : Int} (hr : 0 ≤ R) (hm : 0 ≤ M) : ∀ ks qs : List Tree, ks.length = qs.length → M * (tsL qs : Int) ≤ M * (tsL ks : Int) + dL R M M ks qs
 | [], [], _ => by rw [dL]; omega
 | [], _ :: _, h => by cases h
 | _ :: _, [], h => by cases h
 | k :: ks, q :: qs, h => by
  have h1 := dT_grow hr hm k q
  have h2 := dL_grow hr hm ks qs (by simpa using h)
  rw [dL, tsL, tsL, Int.natCast_add, Int.natCast_add, Int.mul_add, Int.mul_add]
  omega
end
mutual
theorem dT_tri {R M : Int} (hr : 0 ≤ R) (hm : 0 ≤ M) : ∀ t u v : Tree, dT R M M t v ≤ dT R M M t u + dT R M M u v
 | .mk s ks, .mk b qs, .mk c ws => by
  have g1 := dT_grow hr hm (.mk b qs) (.mk c ws)
  have g2 := dT_grow hr hm (.mk b qs) (.mk s ks)
  rw [dT_symm (.mk b qs) (.mk s ks)] at g2
  have top : dT R M M (.mk s ks) (.mk c ws) ≤ M * (tsT (.mk s ks) : Int) + M * (tsT (.mk c ws) : Int) := by
   rw [dT]
   split
   ·exact Int.min_le_left _ _
   ·exact Int.le_refl _
  by_cases c1 : ks.length = qs.length
  ·by_cases c2 : qs.length = ws.length
   ·have e1 : dT R M M (.mk s ks) (.mk b qs) = min (M * (tsT (.mk s ks) : Int) + M * (tsT (.mk b qs) : Int)) ((if s = b then 0 else R) + dL R M M ks qs) := by
     rw [dT, if_pos ⟨c1, .inr hr⟩]
    have e2 : dT R M M (.mk b qs) (.mk c ws) = min (M * (tsT (.mk b qs) : Int) + M * (tsT (.mk c ws) : Int)) ((if b = c then 0 else R) + dL R M M qs ws) := by
     rw [dT, if_pos ⟨c2, .inr hr⟩]
    have e3 : dT R M M (.mk s ks) (.mk c ws) ≤ (if s = c then 0 else R) + dL R M M ks ws := by
     rw [dT, if_pos ⟨c1.trans c2, .inr hr⟩]
     exact Int.min_le_right _ _
    have h := dL_tri hr hm ks qs ws c1 c2
    have hR : (if s = c then 0 else R) ≤ (if s = b then 0 else R) + (if b = c then 0 else R) := by
     by_cases f1 : s = b
     ·subst f1; rw [if_pos rfl]; omega
     ·rw [if_neg f1]
      split <;> split <;> omega
    rw [e1] at g2 ⊢
    rw [e2] at g1 ⊢
    omega
   ·have e2 : dT R M M (.mk b qs) (.mk c ws) = M * (tsT (.mk b qs) : Int) + M * (tsT (.mk c ws) : Int) := by rw [dT, if_neg (fun h => c2 h.1)]
    omega
  ·have e1 : dT R M M (.mk s ks) (.mk b qs) = M * (tsT (.mk s ks) : Int) + M * (tsT (.mk b qs) : Int) := by rw [dT, if_neg (fun h => c1 h.1)]
   omega
theorem dL_tri {R M : Int} (hr : 0 ≤ R) (hm : 0 ≤ M) : ∀ ks qs ws : List Tree, ks.length = qs.length → qs.length = ws.length → dL R M M ks ws ≤ dL R M M ks qs + dL R M M qs ws
 | [], [], [], _, _ => by rw [dL]; omega
 | [], _ :: _, _, h, _ => by cases h
 | _ :: _, [], _, h, _ => by cases h
 | _, [], _ :: _, _, h => by cases h
 | _, _ :: _, [], _, h => by cases h
 | k :: ks, q :: qs, w :: ws, h1, h2 => by
  have i1 := dT_tri hr hm k q w
  have i2 := dL_tri hr hm ks qs ws (by simpa using h1) (by simpa using h2)
  rw [dL, dL, dL]
  omega
end
theorem fold_from {R sym : Int} {kids : List (List Int)} {m : Nat} {s : Int} (h0 : 0 ≤ s) : ∀ (l : List Rule) (row : List Int), row.length = m → (∀ x ∈ l, 0 ≤ x.To ∧ x.To < (m : Int)) →
 gz (l.foldl (stC R sym kids) row) s = gz row s ∨ ∃ x ∈ l, x.To = s ∧ gz (l.foldl (stC R sym kids) row) s = keepC R sym kids x
 | [], row, _, _ => .inl rfl
 | y :: l, row, hl, hto => by
  have hy := hto y (by simp)
  have hg : gz (stC R sym kids row y) s = if s = y.To then min (gz row y.To) (keepC R sym kids y) else gz row s := gz_set hy.1 (by rw [hl]; exact hy.2) h0
  rw [List.foldl_cons]
  rcases fold_from h0 l (stC R sym kids row y) (by unfold stC; rw [List.length_set]; exact hl) fun x hx => hto x (List.mem_cons_of_mem _ hx) with h | ⟨x, hx, e1, e2⟩
  ·rw [hg] at h
   by_cases c : s = y.To
   ·rw [if_pos c] at h
    by_cases d : gz row y.To ≤ keepC R sym kids y
    ·left; rw [h, c]; omega
    ·right; exact ⟨y, by simp, c.symm, by rw [h]; omega⟩
   ·rw [if_neg c] at h; exact .inl h
  ·exact .inr ⟨x, List.mem_cons_of_mem _ hx, e1, e2⟩
theorem sumC_ge {m : Nat} : ∀ (cs : List (List Int)) (f : List Int) (s : Int), (∀ c ∈ cs, CV m c) → s ≤ FAR → s ≤ sumC cs f s
 | [], f, s, _, _ => by
  cases f <;> (rw [sumC] <;> first | exact Int.le_refl _ | (intros; contradiction))
 | c :: cs, [], s, _, _ => by rw [sumC]; exact Int.le_refl _; all_goals (intros; contradiction)
 | c :: cs, x :: f, s, h, hs => by
  have hg := (h c (by simp)).gz x
  rw [sumC]
  refine Int.le_trans ?_ (sumC_ge cs f _ (fun d hd => h d (List.mem_cons_of_mem _ hd)) (by omega))
  omega
section
variable {a : Automaton} {v : List Int} {R M I : Int}
mutual
theorem zero_run (ha : OKa a) (hv : ZV a.States.toNat v) (w : WOk R M I) (hR : R ≠ 0) (hM : 0 < M) : ∀ (t : Tree) (s : Int), 0 ≤ s → s < (a.States.toNat : Int) → gz (cosT a v R M I t) s = 0 → A3.stT a t s = true
 | .mk b ks, s, h0, h1, h => by
  have hst := ha.st
  have hcv := cosL_CV (R := R) (M := M) (I := I) hv w ks
  have hini := ini_CV hv w.m w.i (tsT (.mk b ks))
  rw [cosT, rowC] at h
  rcases fold_from (R := R) (sym := b) (kids := cosL a v R M I ks) h0 a.Rules _ hini.len fun y hy => by have := ha.to y hy; omega with e | ⟨x, hx, e1, e2⟩
  ·rw [h] at e
   exfalso
   have hg : gz (v.map fun n => min (M * (tsT (.mk b ks) : Int) + newsC I n) FAR) s = min (M * (tsT (.mk b ks) : Int) + newsC I (gz v s)) FAR := by
    unfold gz
    rw [List.getElem?_map, List.getElem?_eq_getElem (by rw [hv.len]; omega)]; rfl
   rw [hg] at e
   have hn := (newsC_bd w.i (hv.gz s).1).1
   have hp : 0 < M * (tsT (.mk b ks) : Int) := Int.mul_pos hM (by rw [tsT]; omega)
   unfold FAR at e
   omega
  ·rw [h] at e2
   have hk := e2.symm
   unfold keepC at hk
   by_cases c1 : x.Sym ≠ b ∧ R < 0
   ·rw [if_pos c1] at hk; unfold FAR at hk; omega
   ·rw [if_neg c1] at hk
    by_cases c2 : x.From.length = (cosL a v R M I ks).length
    ·rw [if_pos c2] at hk
     by_cases c3 : x.Sym = b
     ·rw [if_pos c3] at hk
      rw [A3.stT, List.any_eq_true]
      refine ⟨x, hx, ?_⟩
      rw [Bool.and_eq_true]
      rw [cosL_map, List.length_map] at c2
      exact ⟨decide_eq_true ⟨c3, e1⟩, zero_runL ha hv w hR hM ks x.From (fun y hy => by have := ha.from' x hx y hy; omega) c2.symm hk⟩
     ·exfalso
      rw [if_neg c3] at hk
      have h3 : ¬ R < 0 := fun h => c1 ⟨c3, h⟩
      have := sumC_ge (cosL a v R M I ks) x.From R hcv (by have := w.r; unfold FAR; omega)
      omega
    ·rw [if_neg c2] at hk; unfold FAR at hk; omega
theorem zero_runL (ha : OKa a) (hv : ZV a.States.toNat v) (w : WOk R M I) (hR : R ≠ 0) (hM : 0 < M) : ∀ (ks : List Tree) (f : List Int), (∀ y ∈ f, 0 ≤ y ∧ y < (a.States.toNat : Int)) → ks.length = f.length → sumC (cosL a v R M I ks) f 0 = 0 → A3.stL a ks f = true
 | [], _, _, _, _ => by rw [A3.stL]
 | _ :: _, [], _, h, _ => by cases h
 | k :: ks, y :: f, hf, hl, h => by
  have hc := cosT_CV hv w k
  have hg := hc.gz y
  rw [cosL, sumC] at h
  have hge := sumC_ge (cosL a v R M I ks) f (min (0 + gz (cosT a v R M I k) y) FAR) (cosL_CV hv w ks) (by omega)
  rw [h] at hge
  have hz : gz (cosT a v R M I k) y = 0 := by unfold FAR at hge hg; omega
  rw [hz] at h
  have e : min ((0 : Int) + 0) FAR = 0 := by unfold FAR; omega
  rw [e] at h
  rw [A3.stL, zero_run ha hv w hR hM k y (hf y (by simp)).1 (hf y (by simp)).2 hz, zero_runL ha hv w hR hM ks f (fun z hz => hf z (List.mem_cons_of_mem _ hz)) (by simpa using hl) h]; rfl
end
end
end Tab
end Go.AM.S22

namespace Go.AM.S22
namespace Hol
open Go Go.Proofs Go.AM
set_option maxRecDepth 100000
set_option linter.unusedVariables false
set_option maxHeartbeats 4000000
abbrev PS := Option (Nat × List (List repair_holes) × Nat)
def pv : PS → AV
 | none => .nms 4 1
 | some (g, _, n) => .ms 4 g 1 0 n
def po : PS → AObj
 | none => .dead
 | some (g, l, _) => .arr g 1 (List.map (rowA (rowL 3 row_repair_holes)) l)
def yS (σ : List AObj) (s : PS) : List AObj := (σ.set 4 (po s)).set 5 (.cells [pv s])
theorem yS_len (σ : List AObj) (s : PS) : (yS σ s).length = σ.length := by simp [yS]
theorem yS_get (σ : List AObj) (s : PS) {i : Nat} (h : i ≠ 4 ∧ i ≠ 5) : (yS σ s)[i]? = σ[i]? := by
 unfold yS; rw [List.getElem?_set_ne (by omega), List.getElem?_set_ne (by omega)]
theorem yS_4 {σ : List AObj} (s : PS) (h : 8 ≤ σ.length) : (yS σ s)[4]? = some (po s) := by
 unfold yS; rw [List.getElem?_set_ne (by decide), List.getElem?_set_self (by omega)]
theorem yS_5 {σ : List AObj} (s : PS) (h : 8 ≤ σ.length) : (yS σ s)[5]? = some (.cells [pv s]) := by
 unfold yS; rw [List.getElem?_set_self (by simp; omega)]
theorem yS_set (σ : List AObj) (s p : PS) : ((yS σ s).set 4 (po p)).set 5 (.cells [pv p]) = yS σ p := by
 unfold yS
 rw [List.set_comm _ _ (by decide : 5 ≠ 4), List.set_set, List.set_set]
theorem yS_app {σ : List AObj} (s : PS) (h : 8 ≤ σ.length) (l : List AObj) : yS σ s ++ l = yS (σ ++ l) s := by
 unfold yS
 rw [List.set_append_left _ _ (by omega), List.set_append_left _ _ (by simp; omega)]
def holRow0 (n : Nat) (a : Automaton) (z : List Int) (u : Tree) : Option (List (List repair_holes) × Nat) :=
 (mkz 40 a.States a.States (repair_holes.mk false 0 ([] : List (List Int)))).bind fun v1 =>
 rangeI ((a.States).toNat : Int) v1 (fun k1 i1 (s1 : (List repair_holes)) n1 =>
  (z[i1]?).bind fun v9 =>
  (tree_Size n u).bind fun v10 =>
  (idxM ((a.States).toNat) s1 (i1 : Int)).bind fun v11 =>
  n1 (List.set s1 i1 (repair_holes.mk (decide (0 < v9)) v10 [([] : List Int)]))) fun s1 =>
 rangeL a.Rules s1 (fun k2 i2 x2 (s2 : (List repair_holes)) n2 =>
  (cutM 0 (w64 (0 - (u.Kids.length : Int)))).bind fun v5 =>
  (repair_within x2 u ([] : List (List repair_holes))).bind fun v6 =>
  if v6.2 = true then
   (idxM ((a.States).toNat) s2 x2.To).bind fun v7 =>
   (repair_fewer v6.1 v7).bind fun v8 =>
   if v8 = true then
    n2 (List.set s2 ((x2.To).toNat) v6.1)
   else
    n2 s2
  else
   n2 s2) fun s2 =>
 (cutM 0 (w64 (0 - (u.Kids.length : Int)))).bind fun v2 =>
 (allM 0 ((a.States).toNat) s2).bind fun v3 =>
 (appM 24 0 ([] : List (List repair_holes)) [v3]).bind fun v4 =>
 some (v4, 1)
theorem holRow0_spec {E : Env} (hE4 : get E 4 = .ptr 1 0) (hE10 : get E 10 = .ptr 5 0) (hE8 : get E 8 = .ptr 3 0) (hEl : ∀ t, ltV 7 (get E t) = true) {σ : List AObj} (hl : 8 ≤ σ.length) (n : Nat) (a : Automaton) (z : List Int) (u : Tree) (o1 : σ[1]? = some (.cells [.p (iv a.States), .p (.sl none 1 (List.map rowI a.Final)), .p (.sl none 3 (List.map row_Rule a.Rules))])) (o3 : σ[3]? = some (.cells [.p (.sl none 1 (List.map rowI z))]))  (r : List (List repair_holes) × Nat) (h : holRow0 n a z u = some r) (i : Int) (K : Ex × S → Option (Out × List AObj)) (Q : Out × List AObj → Prop)
 (hK : ∀ env loc, Sat (K (.normal, ⟨env, yS σ (some (1, r.1, r.2)) ++ loc, [], none, false⟩)) Q) :
 Sat (run Try.prog T H 13 σ.length 0 B13_0 ⟨(12, .ptr σ.length 0) :: (45, .p (iv i)) :: (46, .p (.agg [iv u.Sym, .sl none 2 (List.map row_Tree u.Kids)])) :: E, (yS σ none) ++ [.cells [.p (iv u.Sym), .p (.sl none 2 (List.map row_Tree u.Kids))]], [], none, false⟩ K) Q := by
 unfold holRow0 at h
 have yl := fun s => yS_len σ s
 have b1 : ∀ s l, (yS σ s ++ l)[1]? = some (.cells [.p (iv a.States), .p (.sl none 1 (List.map rowI a.Final)), .p (.sl none 3 (List.map row_Rule a.Rules))]) := fun s l => by rw [List.getElem?_append_left (by rw [yS_len]; omega), yS_get _ _ (by decide), o1]
 have b3 : ∀ s l, (yS σ s ++ l)[3]? = some (.cells [.p (.sl none 1 (List.map rowI z))]) := fun s l => by rw [List.getElem?_append_left (by rw [yS_len]; omega), yS_get _ _ (by decide), o3]
 have f5 : ∀ k, (yS σ none ++ k)[5]? = some (.cells [.nms 4 1]) := fun k => by rw [List.getElem?_append_left (by rw [yS_len]; omega), yS_5 _ (by omega)]; rfl
 have fd : ∀ k, (yS σ none ++ k)[4]? = some .dead := fun k => by rw [List.getElem?_append_left (by rw [yS_len]; omega), yS_4 _ (by omega)]; rfl
 have f45 : ∀ k X, ((yS σ none ++ k).set 4 X)[5]? = some (.cells [.nms 4 1]) := fun k X => by rw [List.getElem?_set_ne (by decide)]; exact f5 k
 have hp : ∀ k v m, ((yS σ none ++ k).set 4 (.arr 1 1 (List.map (rowA (rowL 3 row_repair_holes)) v))).set 5 (.cells [.ms 4 1 1 0 m]) = yS σ (some (1, v, m)) ++ k := fun k v m => by rw [List.set_append_left _ _ (by rw [yS_len]; omega), List.set_append_left _ _ (by rw [List.length_set, yS_len]; omega)]; exact congrArg (· ++ k) (yS_set σ _ (some (1, v, m)))
 have g0 : ∀ s l, (yS σ s ++ l)[σ.length]? = l[0]? := fun s l => sA0 (yS_len σ s)
 have gk : ∀ s l k, (yS σ s ++ l)[σ.length + k]? = l[k]? := fun s l k => sAK (yS_len σ s)
 have s0 : ∀ s l y, (yS σ s ++ l).set σ.length y = yS σ s ++ l.set 0 y := fun s l y => sS0 (yS_len σ s)
 have sk : ∀ s l y k, (yS σ s ++ l).set (σ.length + k) y = yS σ s ++ l.set k y := fun s l y k => sSK (yS_len σ s)
 have t0 : ∀ s l, (yS σ s ++ l).take σ.length = yS σ s := fun s l => sT0 (yS_len σ s)
 have tk : ∀ s l k, (yS σ s ++ l).take (σ.length + k) = yS σ s ++ l.take k := fun s l k => sTK (yS_len σ s)
 have tx : ∀ s, (yS σ s).take σ.length = yS σ s := fun s => sTX (yS_len σ s)
 have lt : ∀ k, 1 < σ.length + k ∧ 3 < σ.length + k ∧ 4 < σ.length + k ∧ 5 < σ.length + k := fun k => by omega
 have lE : ∀ t k, ltV (σ.length + k) (get E t) = true := fun t k => ltV_mono (by omega) _ (hEl t)
 have lE0 : ∀ t, ltV σ.length (get E t) = true := fun t => ltV_mono (by omega) _ (hEl t)
 conv => arg 1; arg 7; unfold B13_0 rangeB S22.c13 Try.f13; simp only [rangeIn, Option.getD_some, if_true]
 obtain ⟨v1, e_v1, h⟩ := ob h
 obtain ⟨e_v11, e_v12, e_v13, e_v14⟩ := mkz_some e_v1
 have e_v1b : boundOk (a.States).toNat 40 = true := bnd_of e_v13 (by decide)
 have e_v1r : List.replicate (a.States).toNat [AV.p (bv false), AV.p (iv 0), AV.p (.sl none 1 [])] = List.map (rowA row_repair_holes) v1 := by rw [e_v14]; exact rep_map (by first | rfl | simp only [go_sem, List.map_nil])
 simp only [go_sem, e_v11, e_v12, e_v1b, e_v1r, hE4, hE10, hE8, yl, b1, b3, f5, fd, f45, hp, g0, gk, s0, sk, t0, tk, tx, lt, lE, lE0]
 refine run_rangeI (c := L13_2) (live := [4, 8, 10, 12, 13, 14, 57, 58]) (by simp only [go_sem]) (M := fun i1 (s1 : (List repair_holes)) => [(4, .ptr 1 0), (8, .ptr 3 0), (10, .ptr 5 0), (12, .ptr σ.length 0), (13, .p (iv (w64 (0 - (u.Kids.length : Int))))), (14, .ms (σ.length + 1) 0 3 0 ((a.States).toNat)), (57, .p (iv ((a.States).toNat : Int))), (58, .p (iv (i1 : Int)))]) (Z := fun i1 (s1 : (List repair_holes)) => ((yS σ none) ++ [.cells [.p (iv u.Sym), .p (.sl none 2 (List.map row_Tree u.Kids))], .arr 0 3 (List.map (rowA row_repair_holes) s1)])) (N := fun (s1 : (List repair_holes)) => ⟨[(4, .ptr 1 0), (8, .ptr 3 0), (10, .ptr 5 0), (12, .ptr σ.length 0), (13, .p (iv (w64 (0 - (u.Kids.length : Int))))), (14, .ms (σ.length + 1) 0 3 0 ((a.States).toNat))], ((yS σ none) ++ [.cells [.p (iv u.Sym), .p (.sl none 2 (List.map row_Tree u.Kids))], .arr 0 3 (List.map (rowA row_repair_holes) s1)]), [], none, false⟩) h (by first | rfl | (simp only [go_sem, hE4, hE10, hE8, yl, b1, b3, f5, fd, f45, hp, g0, gk, s0, sk, t0, tk, tx, lt, lE, lE0]; done) | (simp only [go_sem, hE4, hE10, hE8, yl, b1, b3, f5, fd, f45, hp, g0, gk, s0, sk, t0, tk, tx, lt, lE, lE0]; rfl)) (by first | rfl | (simp only [go_sem, hE4, hE10, hE8, yl, b1, b3, f5, fd, f45, hp, g0, gk, s0, sk, t0, tk, tx, lt, lE, lE0]; done) | (simp only [go_sem, hE4, hE10, hE8, yl, b1, b3, f5, fd, f45, hp, g0, gk, s0, sk, t0, tk, tx, lt, lE, lE0]; rfl)) (fun _ _ => rfl) ?_ ?_ ?_
 ·intro s1 h
  try dsimp only at h ⊢
  simp only [go_sem, hE4, hE10, hE8, yl, b1, b3, f5, fd, f45, hp, g0, gk, s0, sk, t0, tk, tx, lt, lE, lE0]
  refine run_rangeL (c := L13_4) (live := [4, 8, 10, 12, 13, 14, 76, 77, 78]) (by simp only [go_sem]) (M := fun i2 (s2 : (List repair_holes)) => [(4, .ptr 1 0), (8, .ptr 3 0), (10, .ptr 5 0), (12, .ptr σ.length 0), (13, .p (iv (w64 (0 - (u.Kids.length : Int))))), (14, .ms (σ.length + 1) 0 3 0 ((a.States).toNat)), (76, .p (.sl none 3 (List.map row_Rule a.Rules))), (77, .p (iv (a.Rules.length : Int))), (78, .p (iv (i2 : Int)))]) (Z := fun i2 (s2 : (List repair_holes)) => ((yS σ none) ++ [.cells [.p (iv u.Sym), .p (.sl none 2 (List.map row_Tree u.Kids))], .arr 0 3 (List.map (rowA row_repair_holes) s2)])) (N := fun (s2 : (List repair_holes)) => ⟨[(4, .ptr 1 0), (8, .ptr 3 0), (10, .ptr 5 0), (13, .p (iv (w64 (0 - (u.Kids.length : Int))))), (14, .ms (σ.length + 1) 0 3 0 ((a.States).toNat))], ((yS σ none) ++ [.cells [.p (iv u.Sym), .p (.sl none 2 (List.map row_Tree u.Kids))], .arr 0 3 (List.map (rowA row_repair_holes) s2)]), [], none, false⟩) h (by first | rfl | (simp only [go_sem, hE4, hE10, hE8, yl, b1, b3, f5, fd, f45, hp, g0, gk, s0, sk, t0, tk, tx, lt, lE, lE0]; done) | (simp only [go_sem, hE4, hE10, hE8, yl, b1, b3, f5, fd, f45, hp, g0, gk, s0, sk, t0, tk, tx, lt, lE, lE0]; rfl)) (by first | rfl | (simp only [go_sem, hE4, hE10, hE8, yl, b1, b3, f5, fd, f45, hp, g0, gk, s0, sk, t0, tk, tx, lt, lE, lE0]; done) | (simp only [go_sem, hE4, hE10, hE8, yl, b1, b3, f5, fd, f45, hp, g0, gk, s0, sk, t0, tk, tx, lt, lE, lE0]; rfl)) (fun _ _ => rfl) ?_ ?_ ?_
  ·intro s2 h
   try dsimp only at h ⊢
   obtain ⟨v2, e_v2, h⟩ := ob h
   obtain ⟨e_v2a, e_v2b, e_v2d⟩ := cutM_some e_v2
   have e_v2z : v2 = 0 := Nat.le_zero.1 e_v2b
   obtain ⟨v3, e_v3, h⟩ := ob h
   have e_v3a := (allM_some e_v3).1
   have e_v3b := (allM_some e_v3).2
   try simp only [Nat.zero_add] at e_v3a
   try simp only [List.drop_zero] at e_v3b
   obtain ⟨v4, e_v4, h⟩ := ob h
   have e_v4a := (appM_some e_v4).1
   have e_v4b : boundOk (1) 24 = true := by decide
   have e_v4l : v4.length = 1 := by rw [← (appM_some e_v4).2.2]; rfl
   have e_v4e : (List.map (rowA (rowL 3 row_repair_holes)) v4).isEmpty = false := by rw [← (appM_some e_v4).2.2]; rfl
   have e_v4c : [[AV.p (.sl none 3 (List.map row_repair_holes v3))]] = List.map (rowA (rowL 3 row_repair_holes)) v4 := by rw [← (appM_some e_v4).2.2]; simp [rowA, rowL, row_repair_holes_eq]
   simp only [go_sem, e_v2a, e_v2d, e_v2z, e_v3a, e_v3b, e_v4b, e_v4l, e_v4e, e_v4c, hE4, hE10, hE8, yl, b1, b3, f5, fd, f45, hp, g0, gk, s0, sk, t0, tk, tx, lt, lE, lE0]
   injection h with h; subst h
   exact hK _ _
  ·intro K2 s2 hb2 he2
   try dsimp only
   conv => arg 1; arg 7; unfold L13_4 loopAt S22.c13 Try.f13; simp only [loopIn, Option.getD_some, if_true]
   simp only [go_sem, he2, hE4, hE10, hE8, yl, b1, b3, f5, fd, f45, hp, g0, gk, s0, sk, t0, tk, tx, lt, lE, lE0]
   exact hb2
  ·intro K2 k2 i2 x2 s2 n2 hR2 hE2 hb2 hx2 hi2 hw2 ih2 h
   try dsimp only at h ⊢
   conv => arg 1; arg 7; unfold L13_4 loopAt S22.c13 Try.f13; simp only [loopIn, Option.getD_some, if_true]
   obtain ⟨v5, e_v5, h⟩ := ob h
   obtain ⟨e_v5a, e_v5b, e_v5d⟩ := cutM_some e_v5
   have e_v5z : v5 = 0 := Nat.le_zero.1 e_v5b
   obtain ⟨v6, e_v6, h⟩ := ob h
   have e_v6c : call Try.prog T H (.fn 39) [.p (.agg [iv x2.Sym, .sl none 1 (List.map rowI x2.From), iv x2.To]), .p (.agg [iv u.Sym, .sl none 2 (List.map row_Tree u.Kids)]), .p (.sl none 1 [])] [] = some (.ret (.p (.tup [.agg [bv v6.1.ok, iv v6.1.gone, .sl none 1 (List.map (rowL 1 rowI) v6.1.list)], bv v6.2])), []) := spec39 x2 u ([] : List (List repair_holes)) v6 e_v6
   by_cases c1 : v6.2 = true
   ·have h := iteT h c1
    obtain ⟨v7, e_v7, h⟩ := ob h
    obtain ⟨e_v7a, e_v7b, e_v7d⟩ := idxM_some e_v7
    obtain ⟨v8, e_v8, h⟩ := ob h
    have e_v8c := spec40 v6.1 v7 v8 e_v8
    by_cases c2 : v8 = true
    ·have h := iteT h c2
     have e_y1 : List.set (List.map (rowA row_repair_holes) s2) ((x2.To).toNat) [.p (bv v6.1.ok), .p (iv v6.1.gone), .p (.sl none 1 (List.map (rowL 1 rowI) v6.1.list))] = List.map (rowA row_repair_holes) (List.set s2 ((x2.To).toNat) v6.1) := map_set' (by first | rfl | simp only [go_sem, List.map_cons, List.map_nil])
     simp only [go_sem, hx2, hi2, hw2, e_v5a, e_v5d, e_v5z, e_v6c, c1, e_v7a, e_v7b, e_v7d, e_v8c, c2, e_y1, hR2, hE2, hE4, hE10, hE8, yl, b1, b3, f5, fd, f45, hp, g0, gk, s0, sk, t0, tk, tx, lt, lE, lE0]
     exact ih2 (List.set s2 ((x2.To).toNat) v6.1) h
    ·have h := iteF h c2
     have c2 := eq_false_of_ne_true c2
     simp only [go_sem, hx2, hi2, hw2, e_v5a, e_v5d, e_v5z, e_v6c, c1, e_v7a, e_v7b, e_v7d, e_v8c, c2, hR2, hE2, hE4, hE10, hE8, yl, b1, b3, f5, fd, f45, hp, g0, gk, s0, sk, t0, tk, tx, lt, lE, lE0]
     exact ih2 s2 h
   ·have h := iteF h c1
    have c1 := eq_false_of_ne_true c1
    simp only [go_sem, hx2, hi2, hw2, e_v5a, e_v5d, e_v5z, e_v6c, c1, hR2, hE2, hE4, hE10, hE8, yl, b1, b3, f5, fd, f45, hp, g0, gk, s0, sk, t0, tk, tx, lt, lE, lE0]
    exact ih2 s2 h
 ·intro K1 i1 s1 hb1 he1
  try dsimp only
  conv => arg 1; arg 7; unfold L13_2 loopAt S22.c13 Try.f13; simp only [loopIn, Option.getD_some, if_true]
  simp only [go_sem, he1, hE4, hE10, hE8, yl, b1, b3, f5, fd, f45, hp, g0, gk, s0, sk, t0, tk, tx, lt, lE, lE0]
  exact hb1
 ·intro K1 k1 i1 s1 n1 hR1 hE1 hb1 hi1 hw1 ih1 h
  try dsimp only at h ⊢
  conv => arg 1; arg 7; unfold L13_2 loopAt S22.c13 Try.f13; simp only [loopIn, Option.getD_some, if_true]
  obtain ⟨v9, e_v9, h⟩ := ob h
  obtain ⟨v10, e_v10, h⟩ := ob h
  have e_v10c := spec38 n u v10 e_v10
  obtain ⟨v11, e_v11, h⟩ := ob h
  obtain ⟨e_v11a, e_v11b, e_v11d⟩ := idxM_some e_v11
  simp only [Int.toNat_natCast] at e_v11b
  simp only [Int.toNat_natCast] at e_v11d
  have e_y2 : List.set (List.map (rowA row_repair_holes) s1) i1 [.p (bv (decide (0 < v9))), .p (iv v10), .p (.sl none 1 [[.sl none 1 []]])] = List.map (rowA row_repair_holes) (List.set s1 i1 (repair_holes.mk (decide (0 < v9)) v10 [([] : List Int)])) := map_set' (by first | rfl | simp only [go_sem, List.map_cons, List.map_nil])
  simp only [go_sem, hi1, hw1, e_v9, e_v10c, e_v11b, e_v11d, e_y2, hR1, hE1, hE4, hE10, hE8, yl, b1, b3, f5, fd, f45, hp, g0, gk, s0, sk, t0, tk, tx, lt, lE, lE0]
  exact ih1 (List.set s1 i1 (repair_holes.mk (decide (0 < v9)) v10 [([] : List Int)])) h
def holRow (n : Nat) (a : Automaton) (z : List Int) (u : Tree) (o : List (List repair_holes)) (l : Nat) : Option (List (List repair_holes) × Nat) :=
 (mkz 40 a.States a.States (repair_holes.mk false 0 ([] : List (List Int)))).bind fun v1 =>
 rangeI ((a.States).toNat : Int) v1 (fun k1 i1 (s1 : (List repair_holes)) n1 =>
  (z[i1]?).bind fun v9 =>
  (tree_Size n u).bind fun v10 =>
  (idxM ((a.States).toNat) s1 (i1 : Int)).bind fun v11 =>
  n1 (List.set s1 i1 (repair_holes.mk (decide (0 < v9)) v10 [([] : List Int)]))) fun s1 =>
 rangeL a.Rules s1 (fun k2 i2 x2 (s2 : (List repair_holes)) n2 =>
  (cutM l (w64 ((l : Int) - (u.Kids.length : Int)))).bind fun v5 =>
  (repair_within_xxq x2 u o (l - v5) v5).bind fun v6 =>
  if v6.2 = true then
   (idxM ((a.States).toNat) s2 x2.To).bind fun v7 =>
   (repair_fewer v6.1 v7).bind fun v8 =>
   if v8 = true then
    n2 (List.set s2 ((x2.To).toNat) v6.1)
   else
    n2 s2
  else
   n2 s2) fun s2 =>
 (cutM l (w64 ((l : Int) - (u.Kids.length : Int)))).bind fun v2 =>
 (allM 0 ((a.States).toNat) s2).bind fun v3 =>
 (appM 24 v2 o [v3]).bind fun v4 =>
 some (v4, (v2 + 1))
theorem holRow_spec {E : Env} (hE4 : get E 4 = .ptr 1 0) (hE10 : get E 10 = .ptr 5 0) (hE8 : get E 8 = .ptr 3 0) (hEl : ∀ t, ltV 7 (get E t) = true) {σ : List AObj} (hl : 8 ≤ σ.length) (n : Nat) (a : Automaton) (z : List Int) (u : Tree) (g : Nat) (o : List (List repair_holes)) (l : Nat) (o1 : σ[1]? = some (.cells [.p (iv a.States), .p (.sl none 1 (List.map rowI a.Final)), .p (.sl none 3 (List.map row_Rule a.Rules))])) (o3 : σ[3]? = some (.cells [.p (.sl none 1 (List.map rowI z))]))  (r : List (List repair_holes) × Nat) (h : holRow n a z u o l = some r) (i : Int) (K : Ex × S → Option (Out × List AObj)) (Q : Out × List AObj → Prop)
 (hK : ∀ env loc, Sat (K (.normal, ⟨env, yS σ (some ((g + 1), r.1, r.2)) ++ loc, [], none, false⟩)) Q) :
 Sat (run Try.prog T H 13 σ.length 0 B13_0 ⟨(12, .ptr σ.length 0) :: (45, .p (iv i)) :: (46, .p (.agg [iv u.Sym, .sl none 2 (List.map row_Tree u.Kids)])) :: E, (yS σ (some (g, o, l))) ++ [.cells [.p (iv u.Sym), .p (.sl none 2 (List.map row_Tree u.Kids))]], [], none, false⟩ K) Q := by
 unfold holRow at h
 have yl := fun s => yS_len σ s
 have b1 : ∀ s l, (yS σ s ++ l)[1]? = some (.cells [.p (iv a.States), .p (.sl none 1 (List.map rowI a.Final)), .p (.sl none 3 (List.map row_Rule a.Rules))]) := fun s l => by rw [List.getElem?_append_left (by rw [yS_len]; omega), yS_get _ _ (by decide), o1]
 have b3 : ∀ s l, (yS σ s ++ l)[3]? = some (.cells [.p (.sl none 1 (List.map rowI z))]) := fun s l => by rw [List.getElem?_append_left (by rw [yS_len]; omega), yS_get _ _ (by decide), o3]
 have f5 : ∀ k, (yS σ (some (g, o, l)) ++ k)[5]? = some (.cells [.ms 4 g 1 0 l]) := fun k => by rw [List.getElem?_append_left (by rw [yS_len]; omega), yS_5 _ (by omega)]; rfl
 have f4 : ∀ k, (yS σ (some (g, o, l)) ++ k)[4]? = some (.arr g 1 (List.map (rowA (rowL 3 row_repair_holes)) o)) := fun k => by rw [List.getElem?_append_left (by rw [yS_len]; omega), yS_4 _ (by omega)]; rfl
 have f45 : ∀ k X, ((yS σ (some (g, o, l)) ++ k).set 4 X)[5]? = some (.cells [.ms 4 g 1 0 l]) := fun k X => by rw [List.getElem?_set_ne (by decide)]; exact f5 k
 have hp : ∀ k v m, ((yS σ (some (g, o, l)) ++ k).set 4 (.arr (g + 1) 1 (List.map (rowA (rowL 3 row_repair_holes)) v))).set 5 (.cells [.ms 4 (g + 1) 1 0 m]) = yS σ (some ((g + 1), v, m)) ++ k := fun k v m => by rw [List.set_append_left _ _ (by rw [yS_len]; omega), List.set_append_left _ _ (by rw [List.length_set, yS_len]; omega)]; exact congrArg (· ++ k) (yS_set σ _ (some ((g + 1), v, m)))
 have g0 : ∀ s l, (yS σ s ++ l)[σ.length]? = l[0]? := fun s l => sA0 (yS_len σ s)
 have gk : ∀ s l k, (yS σ s ++ l)[σ.length + k]? = l[k]? := fun s l k => sAK (yS_len σ s)
 have s0 : ∀ s l y, (yS σ s ++ l).set σ.length y = yS σ s ++ l.set 0 y := fun s l y => sS0 (yS_len σ s)
 have sk : ∀ s l y k, (yS σ s ++ l).set (σ.length + k) y = yS σ s ++ l.set k y := fun s l y k => sSK (yS_len σ s)
 have t0 : ∀ s l, (yS σ s ++ l).take σ.length = yS σ s := fun s l => sT0 (yS_len σ s)
 have tk : ∀ s l k, (yS σ s ++ l).take (σ.length + k) = yS σ s ++ l.take k := fun s l k => sTK (yS_len σ s)
 have tx : ∀ s, (yS σ s).take σ.length = yS σ s := fun s => sTX (yS_len σ s)
 have lt : ∀ k, 1 < σ.length + k ∧ 3 < σ.length + k ∧ 4 < σ.length + k ∧ 5 < σ.length + k := fun k => by omega
 have lE : ∀ t k, ltV (σ.length + k) (get E t) = true := fun t k => ltV_mono (by omega) _ (hEl t)
 have lE0 : ∀ t, ltV σ.length (get E t) = true := fun t => ltV_mono (by omega) _ (hEl t)
 conv => arg 1; arg 7; unfold B13_0 rangeB S22.c13 Try.f13; simp only [rangeIn, Option.getD_some, if_true]
 obtain ⟨v1, e_v1, h⟩ := ob h
 obtain ⟨e_v11, e_v12, e_v13, e_v14⟩ := mkz_some e_v1
 have e_v1b : boundOk (a.States).toNat 40 = true := bnd_of e_v13 (by decide)
 have e_v1r : List.replicate (a.States).toNat [AV.p (bv false), AV.p (iv 0), AV.p (.sl none 1 [])] = List.map (rowA row_repair_holes) v1 := by rw [e_v14]; exact rep_map (by first | rfl | simp only [go_sem, List.map_nil])
 simp only [go_sem, e_v11, e_v12, e_v1b, e_v1r, hE4, hE10, hE8, yl, b1, b3, f5, f4, f45, hp, g0, gk, s0, sk, t0, tk, tx, lt, lE, lE0]
 refine run_rangeI (c := L13_2) (live := [4, 8, 10, 12, 13, 14, 57, 58]) (by simp only [go_sem]) (M := fun i1 (s1 : (List repair_holes)) => [(4, .ptr 1 0), (8, .ptr 3 0), (10, .ptr 5 0), (12, .ptr σ.length 0), (13, .p (iv (w64 ((l : Int) - (u.Kids.length : Int))))), (14, .ms (σ.length + 1) 0 3 0 ((a.States).toNat)), (57, .p (iv ((a.States).toNat : Int))), (58, .p (iv (i1 : Int)))]) (Z := fun i1 (s1 : (List repair_holes)) => ((yS σ (some (g, o, l))) ++ [.cells [.p (iv u.Sym), .p (.sl none 2 (List.map row_Tree u.Kids))], .arr 0 3 (List.map (rowA row_repair_holes) s1)])) (N := fun (s1 : (List repair_holes)) => ⟨[(4, .ptr 1 0), (8, .ptr 3 0), (10, .ptr 5 0), (12, .ptr σ.length 0), (13, .p (iv (w64 ((l : Int) - (u.Kids.length : Int))))), (14, .ms (σ.length + 1) 0 3 0 ((a.States).toNat))], ((yS σ (some (g, o, l))) ++ [.cells [.p (iv u.Sym), .p (.sl none 2 (List.map row_Tree u.Kids))], .arr 0 3 (List.map (rowA row_repair_holes) s1)]), [], none, false⟩) h (by first | rfl | (simp only [go_sem, hE4, hE10, hE8, yl, b1, b3, f5, f4, f45, hp, g0, gk, s0, sk, t0, tk, tx, lt, lE, lE0]; done) | (simp only [go_sem, hE4, hE10, hE8, yl, b1, b3, f5, f4, f45, hp, g0, gk, s0, sk, t0, tk, tx, lt, lE, lE0]; rfl)) (by first | rfl | (simp only [go_sem, hE4, hE10, hE8, yl, b1, b3, f5, f4, f45, hp, g0, gk, s0, sk, t0, tk, tx, lt, lE, lE0]; done) | (simp only [go_sem, hE4, hE10, hE8, yl, b1, b3, f5, f4, f45, hp, g0, gk, s0, sk, t0, tk, tx, lt, lE, lE0]; rfl)) (fun _ _ => rfl) ?_ ?_ ?_
 ·intro s1 h
  try dsimp only at h ⊢
  simp only [go_sem, hE4, hE10, hE8, yl, b1, b3, f5, f4, f45, hp, g0, gk, s0, sk, t0, tk, tx, lt, lE, lE0]
  refine run_rangeL (c := L13_4) (live := [4, 8, 10, 12, 13, 14, 76, 77, 78]) (by simp only [go_sem]) (M := fun i2 (s2 : (List repair_holes)) => [(4, .ptr 1 0), (8, .ptr 3 0), (10, .ptr 5 0), (12, .ptr σ.length 0), (13, .p (iv (w64 ((l : Int) - (u.Kids.length : Int))))), (14, .ms (σ.length + 1) 0 3 0 ((a.States).toNat)), (76, .p (.sl none 3 (List.map row_Rule a.Rules))), (77, .p (iv (a.Rules.length : Int))), (78, .p (iv (i2 : Int)))]) (Z := fun i2 (s2 : (List repair_holes)) => ((yS σ (some (g, o, l))) ++ [.cells [.p (iv u.Sym), .p (.sl none 2 (List.map row_Tree u.Kids))], .arr 0 3 (List.map (rowA row_repair_holes) s2)])) (N := fun (s2 : (List repair_holes)) => ⟨[(4, .ptr 1 0), (8, .ptr 3 0), (10, .ptr 5 0), (13, .p (iv (w64 ((l : Int) - (u.Kids.length : Int))))), (14, .ms (σ.length + 1) 0 3 0 ((a.States).toNat))], ((yS σ (some (g, o, l))) ++ [.cells [.p (iv u.Sym), .p (.sl none 2 (List.map row_Tree u.Kids))], .arr 0 3 (List.map (rowA row_repair_holes) s2)]), [], none, false⟩) h (by first | rfl | (simp only [go_sem, hE4, hE10, hE8, yl, b1, b3, f5, f4, f45, hp, g0, gk, s0, sk, t0, tk, tx, lt, lE, lE0]; done) | (simp only [go_sem, hE4, hE10, hE8, yl, b1, b3, f5, f4, f45, hp, g0, gk, s0, sk, t0, tk, tx, lt, lE, lE0]; rfl)) (by first | rfl | (simp only [go_sem, hE4, hE10, hE8, yl, b1, b3, f5, f4, f45, hp, g0, gk, s0, sk, t0, tk, tx, lt, lE, lE0]; done) | (simp only [go_sem, hE4, hE10, hE8, yl, b1, b3, f5, f4, f45, hp, g0, gk, s0, sk, t0, tk, tx, lt, lE, lE0]; rfl)) (fun _ _ => rfl) ?_ ?_ ?_
  ·intro s2 h
   try dsimp only at h ⊢
   obtain ⟨v2, e_v2, h⟩ := ob h
   obtain ⟨e_v2a, e_v2b, e_v2d⟩ := cutM_some e_v2
   obtain ⟨v3, e_v3, h⟩ := ob h
   have e_v3a := (allM_some e_v3).1
   have e_v3b := (allM_some e_v3).2
   try simp only [Nat.zero_add] at e_v3a
   try simp only [List.drop_zero] at e_v3b
   obtain ⟨v4, e_v4, h⟩ := ob h
   have e_v4a := (appM_some e_v4).1
   have e_v4b : boundOk (v2 + 1) 24 = true := bnd_of (by have := (appM_some e_v4).2.1; simpa using this) (by decide)
   have e_v4c : List.map (rowA (rowL 3 row_repair_holes)) (List.take v2 o) ++ [[AV.p (.sl none 3 (List.map row_repair_holes v3))]] = List.map (rowA (rowL 3 row_repair_holes)) v4 := by rw [← (appM_some e_v4).2.2]; simp [rowA, rowL, row_repair_holes_eq]
   simp only [go_sem, e_v2a, e_v2b, e_v2d, e_v3a, e_v3b, e_v4b, e_v4a, e_v4c, hE4, hE10, hE8, yl, b1, b3, f5, f4, f45, hp, g0, gk, s0, sk, t0, tk, tx, lt, lE, lE0]
   injection h with h; subst h
   exact hK _ _
  ·intro K2 s2 hb2 he2
   try dsimp only
   conv => arg 1; arg 7; unfold L13_4 loopAt S22.c13 Try.f13; simp only [loopIn, Option.getD_some, if_true]
   simp only [go_sem, he2, hE4, hE10, hE8, yl, b1, b3, f5, f4, f45, hp, g0, gk, s0, sk, t0, tk, tx, lt, lE, lE0]
   exact hb2
  ·intro K2 k2 i2 x2 s2 n2 hR2 hE2 hb2 hx2 hi2 hw2 ih2 h
   try dsimp only at h ⊢
   conv => arg 1; arg 7; unfold L13_4 loopAt S22.c13 Try.f13; simp only [loopIn, Option.getD_some, if_true]
   obtain ⟨v5, e_v5, h⟩ := ob h
   obtain ⟨e_v5a, e_v5b, e_v5d⟩ := cutM_some e_v5
   obtain ⟨v6, e_v6, h⟩ := ob h
   have e_v6c : call Try.prog T H (.fn 39) [.p (.agg [iv x2.Sym, .sl none 1 (List.map rowI x2.From), iv x2.To]), .p (.agg [iv u.Sym, .sl none 2 (List.map row_Tree u.Kids)]), .ms 0 g 1 v5 (l - v5)] [.arr g 1 (List.map (rowA (rowL 3 row_repair_holes)) o)] = some (.ret (.p (.tup [.agg [bv v6.1.ok, iv v6.1.gone, .sl none 1 (List.map (rowL 1 rowI) v6.1.list)], bv v6.2])), [.arr g 1 (List.map (rowA (rowL 3 row_repair_holes)) o)]) := spec39_xxq g x2 u o (l - v5) v5 v6 e_v6
   by_cases c1 : v6.2 = true
   ·have h := iteT h c1
    obtain ⟨v7, e_v7, h⟩ := ob h
    obtain ⟨e_v7a, e_v7b, e_v7d⟩ := idxM_some e_v7
    obtain ⟨v8, e_v8, h⟩ := ob h
    have e_v8c := spec40 v6.1 v7 v8 e_v8
    by_cases c2 : v8 = true
    ·have h := iteT h c2
     have e_y1 : List.set (List.map (rowA row_repair_holes) s2) ((x2.To).toNat) [.p (bv v6.1.ok), .p (iv v6.1.gone), .p (.sl none 1 (List.map (rowL 1 rowI) v6.1.list))] = List.map (rowA row_repair_holes) (List.set s2 ((x2.To).toNat) v6.1) := map_set' (by first | rfl | simp only [go_sem, List.map_cons, List.map_nil])
     simp only [go_sem, hx2, hi2, hw2, e_v5a, e_v5b, e_v5d, e_v6c, c1, e_v7a, e_v7b, e_v7d, e_v8c, c2, e_y1, hR2, hE2, hE4, hE10, hE8, yl, b1, b3, f5, f4, f45, hp, g0, gk, s0, sk, t0, tk, tx, lt, lE, lE0]
     exact ih2 (List.set s2 ((x2.To).toNat) v6.1) h
    ·have h := iteF h c2
     have c2 := eq_false_of_ne_true c2
     simp only [go_sem, hx2, hi2, hw2, e_v5a, e_v5b, e_v5d, e_v6c, c1, e_v7a, e_v7b, e_v7d, e_v8c, c2, hR2, hE2, hE4, hE10, hE8, yl, b1, b3, f5, f4, f45, hp, g0, gk, s0, sk, t0, tk, tx, lt, lE, lE0]
     exact ih2 s2 h
   ·have h := iteF h c1
    have c1 := eq_false_of_ne_true c1
    simp only [go_sem, hx2, hi2, hw2, e_v5a, e_v5b, e_v5d, e_v6c, c1, hR2, hE2, hE4, hE10, hE8, yl, b1, b3, f5, f4, f45, hp, g0, gk, s0, sk, t0, tk, tx, lt, lE, lE0]
    exact ih2 s2 h
 ·intro K1 i1 s1 hb1 he1
  try dsimp only
  conv => arg 1; arg 7; unfold L13_2 loopAt S22.c13 Try.f13; simp only [loopIn, Option.getD_some, if_true]
  simp only [go_sem, he1, hE4, hE10, hE8, yl, b1, b3, f5, f4, f45, hp, g0, gk, s0, sk, t0, tk, tx, lt, lE, lE0]
  exact hb1
 ·intro K1 k1 i1 s1 n1 hR1 hE1 hb1 hi1 hw1 ih1 h
  try dsimp only at h ⊢
  conv => arg 1; arg 7; unfold L13_2 loopAt S22.c13 Try.f13; simp only [loopIn, Option.getD_some, if_true]
  obtain ⟨v9, e_v9, h⟩ := ob h
  obtain ⟨v10, e_v10, h⟩ := ob h
  have e_v10c := spec38 n u v10 e_v10
  obtain ⟨v11, e_v11, h⟩ := ob h
  obtain ⟨e_v11a, e_v11b, e_v11d⟩ := idxM_some e_v11
  simp only [Int.toNat_natCast] at e_v11b
  simp only [Int.toNat_natCast] at e_v11d
  have e_y2 : List.set (List.map (rowA row_repair_holes) s1) i1 [.p (bv (decide (0 < v9))), .p (iv v10), .p (.sl none 1 [[.sl none 1 []]])] = List.map (rowA row_repair_holes) (List.set s1 i1 (repair_holes.mk (decide (0 < v9)) v10 [([] : List Int)])) := map_set' (by first | rfl | simp only [go_sem, List.map_cons, List.map_nil])
  simp only [go_sem, hi1, hw1, e_v9, e_v10c, e_v11b, e_v11d, e_y2, hR1, hE1, hE4, hE10, hE8, yl, b1, b3, f5, f4, f45, hp, g0, gk, s0, sk, t0, tk, tx, lt, lE, lE0]
  exact ih1 (List.set s1 i1 (repair_holes.mk (decide (0 < v9)) v10 [([] : List Int)])) h
end Hol
end Go.AM.S22

namespace Go.AM.S22
set_option maxRecDepth 100000
set_option maxHeartbeats 4000000
set_option linter.unusedVariables false
namespace Hol
open Go Go.Proofs Go.AM
def stp (n : Nat) (a : Automaton) (z : List Int) (u : Tree) : PS → Option PS
 | none => (holRow0 n a z u).bind fun r => some (some (1, r.1, r.2))
 | some (g, o, l) => (holRow n a z u o l).bind fun r => some (some (g + 1, r.1, r.2))
structure WF (E : Env) (a : Automaton) (z : List Int) (σ : List AObj) : Prop where
 len : 11 ≤ σ.length
 o1 : σ[1]? = some (.cells [.p (iv a.States), .p (.sl none 1 (List.map rowI a.Final)), .p (.sl none 3 (List.map row_Rule a.Rules))])
 o3 : σ[3]? = some (.cells [.p (.sl none 1 (List.map rowI z))])
 o7 : σ[7]? = some (.loop 0 none 140 13 E [45, 46] A13_0 B13_0)
 o8 : σ[8]? = some (.cells [.yld 7])
 o10 : σ[10]? = some (.cells [.fn 65 [.ptr 10 0, .ptr 9 0, .ptr 8 0]])
def wS (σ : List AObj) (s : PS × Int) : List AObj := yS (σ.set 9 (.cells [.p (iv s.2)])) s.1
theorem wS_len (σ : List AObj) (s : PS × Int) : (wS σ s).length = σ.length := by unfold wS; rw [yS_len, List.length_set]
theorem wS_get (σ : List AObj) (s : PS × Int) {i : Nat} (h : i ≠ 4 ∧ i ≠ 5 ∧ i ≠ 9) : (wS σ s)[i]? = σ[i]? := by
 unfold wS; rw [yS_get _ _ ⟨h.1, h.2.1⟩, List.getElem?_set_ne (by omega)]
theorem wS_9 {σ : List AObj} (s : PS × Int) (h : 11 ≤ σ.length) : (wS σ s)[9]? = some (.cells [.p (iv s.2)]) := by
 unfold wS; rw [yS_get _ _ (by decide), List.getElem?_set_self (by omega)]
theorem wS_set9 (σ : List AObj) (s : PS × Int) (m : Int) : (wS σ s).set 9 (.cells [.p (iv m)]) = wS σ (s.1, m) := by
 unfold wS yS
 simp only []
 rw [List.set_comm _ _ (by decide : 5 ≠ 9), List.set_comm _ _ (by decide : 4 ≠ 9), List.set_set]
theorem wS_app {σ : List AObj} (s : PS × Int) (h : 11 ≤ σ.length) (l : List AObj) : wS σ s ++ l = wS (σ ++ l) s := by
 unfold wS
 rw [yS_app _ (by simp; omega), List.set_append_left _ _ (by omega)]
theorem WF.app {E : Env} {a : Automaton} {z : List Int} {σ : List AObj} (h : WF E a z σ) (l : List AObj) : WF E a z (σ ++ l) where
 len := by rw [List.length_append]; have := h.len; omega
 o1 := by rw [List.getElem?_append_left (by have := h.len; omega)]; exact h.o1
 o3 := by rw [List.getElem?_append_left (by have := h.len; omega)]; exact h.o3
 o7 := by rw [List.getElem?_append_left (by have := h.len; omega)]; exact h.o7
 o8 := by rw [List.getElem?_append_left (by have := h.len; omega)]; exact h.o8
 o10 := by rw [List.getElem?_append_left (by have := h.len; omega)]; exact h.o10
theorem set_back {α : Type} {l : List α} {i : Nat} {a : α} (h : l[i]? = some a) : l.set i a = l := by
 apply List.ext_getElem?
 intro j
 by_cases e : i = j
 ·subst e
  have := (List.getElem?_eq_some_iff.mp h).1
  rw [List.getElem?_set_self this, h]
 ·rw [List.getElem?_set_ne e]
theorem yld_spec {E : Env} (hE4 : get E 4 = .ptr 1 0) (hE10 : get E 10 = .ptr 5 0) (hE8 : get E 8 = .ptr 3 0) (hEl : ∀ t, ltV 7 (get E t) = true) (n : Nat) (a : Automaton) (z : List Int) {σ : List AObj} (w : WF E a z σ) (u : Tree) (s : PS × Int) (p : PS) (h : stp n a z u s.1 = some p) (i : Int) (l : List AObj) :
 call Try.prog T H (.yld 7) [.p (iv i), .p (.agg [iv u.Sym, .sl none 2 (List.map row_Tree u.Kids)])] (wS σ s ++ l) = some (.ret (.p (bv true)), wS σ (p, s.2) ++ l) := by
 refine Sat.fn fun Q hQ => ?_
 have hl := w.len
 have e1 : ∀ q : PS, wS σ (q, s.2) ++ l = yS (σ.set 9 (.cells [.p (iv s.2)]) ++ l) q := fun q => by unfold wS; rw [yS_app _ (by simp; omega)]
 have e1s : wS σ s ++ l = yS (σ.set 9 (.cells [.p (iv s.2)]) ++ l) s.1 := e1 s.1
 rw [e1s]
 rw [e1 p] at hQ
 have r7 : (σ.set 9 (.cells [.p (iv s.2)]) ++ l)[7]? = some (.loop 0 none 140 13 E [45, 46] A13_0 B13_0) := by rw [List.getElem?_append_left (by simp; omega), List.getElem?_set_ne (by decide)]; exact w.o7
 have r1 : (σ.set 9 (.cells [.p (iv s.2)]) ++ l)[1]? = some (.cells [.p (iv a.States), .p (.sl none 1 (List.map rowI a.Final)), .p (.sl none 3 (List.map row_Rule a.Rules))]) := by rw [List.getElem?_append_left (by simp; omega), List.getElem?_set_ne (by decide)]; exact w.o1
 have r3 : (σ.set 9 (.cells [.p (iv s.2)]) ++ l)[3]? = some (.cells [.p (.sl none 1 (List.map rowI z))]) := by rw [List.getElem?_append_left (by simp; omega), List.getElem?_set_ne (by decide)]; exact w.o3
 have rl : 8 ≤ (σ.set 9 (.cells [.p (iv s.2)]) ++ l).length := by simp; omega
 generalize σ.set 9 (.cells [.p (iv s.2)]) ++ l = ρ at r7 r1 r3 rl hQ ⊢
 have y7 : ∀ q, (yS ρ q)[7]? = some (.loop 0 none 140 13 E [45, 46] A13_0 B13_0) := fun q => by rw [yS_get _ _ (by decide)]; exact r7
 have a7 : ∀ q k, (yS ρ q ++ k)[7]? = some (.loop 0 none 140 13 E [45, 46] A13_0 B13_0) := fun q k => by rw [List.getElem?_append_left (by rw [yS_len]; omega)]; exact y7 q
 have s7 : ∀ q k, (yS ρ q ++ k).set 7 (.loop 1 none 140 13 E [45, 46] A13_0 B13_0) = yS (ρ.set 7 (.loop 1 none 140 13 E [45, 46] A13_0 B13_0)) q ++ k := fun q k => by
  rw [List.set_append_left _ _ (by rw [yS_len]; omega)]
  unfold yS
  rw [List.set_comm _ _ (by decide : 5 ≠ 7), List.set_comm _ _ (by decide : 4 ≠ 7)]
 have b7 : ∀ q k, (yS (ρ.set 7 (.loop 1 none 140 13 E [45, 46] A13_0 B13_0)) q ++ k)[7]? = some (.loop 1 none 140 13 E [45, 46] A13_0 B13_0) := fun q k => by
  rw [List.getElem?_append_left (by rw [yS_len, List.length_set]; omega), yS_get _ _ (by decide), List.getElem?_set_self (by omega)]
 have c7 : ∀ q k, (yS (ρ.set 7 (.loop 1 none 140 13 E [45, 46] A13_0 B13_0)) q ++ k).set 7 (.loop 0 none 140 13 E [45, 46] A13_0 B13_0) = yS ρ q ++ k := fun q k => by
  rw [List.set_append_left _ _ (by rw [yS_len, List.length_set]; omega)]
  unfold yS
  rw [List.set_comm _ _ (by decide : 5 ≠ 7), List.set_comm _ _ (by decide : 4 ≠ 7), List.set_set, set_back r7]
 have t7 : ∀ q k, (yS ρ q ++ k).take ρ.length = yS ρ q := fun q k => by
  rw [← yS_len ρ q, List.take_left']; rfl
 have g0 : ∀ s l, (yS ρ s ++ l)[ρ.length]? = l[0]? := fun s l => sA0 (yS_len ρ s)
 have s0 : ∀ s l y, (yS ρ s ++ l).set ρ.length y = yS ρ s ++ l.set 0 y := fun s l y => sS0 (yS_len ρ s)
 rw [call_yld (h := y7 s.1) (hok := yo13_0) (hl := rfl)]
 conv => arg 1; arg 7; unfold A13_0 rangeA S22.c13 Try.f13; simp only [rangeIn, Option.getD_some, if_true]
 simp only [go_sem, asgK, setSt, Option.getD_none, yS_len, g0, s0, a7, s7]
 have lens : (ρ.set 7 (.loop 1 none 140 13 E [45, 46] A13_0 B13_0)).length = ρ.length := List.length_set ..
 have fin : ∀ (q : PS) (env : Env) (loc : List AObj), p = q → Sat (yldK 7 ρ.length (.normal, ⟨env, yS (ρ.set 7 (.loop 1 none 140 13 E [45, 46] A13_0 B13_0)) q ++ loc, [], none, false⟩)) Q := fun q env loc e => by
  subst e
  rw [yldK_normal 7 ρ.length _ (setSt_eq (b7 p loc))]
  simp only [Option.getD_some, c7, t7]
  exact Sat.ok hQ
 rcases hs : s.1 with _ | ⟨g, o, m⟩
 ·rw [hs] at h
  obtain ⟨r, e_r, h⟩ := ob h
  injection h with h
  have q := holRow0_spec hE4 hE10 hE8 hEl (σ := ρ.set 7 (.loop 1 none 140 13 E [45, 46] A13_0 B13_0)) (by rw [lens]; exact rl) n a z u (by rw [List.getElem?_set_ne (by decide)]; exact r1) (by rw [List.getElem?_set_ne (by decide)]; exact r3) r e_r i (yldK 7 ρ.length) Q (fun env loc => fin _ env loc h.symm)
  rw [lens] at q
  exact q
 ·rw [hs] at h
  obtain ⟨r, e_r, h⟩ := ob h
  injection h with h
  have q := holRow_spec hE4 hE10 hE8 hEl (σ := ρ.set 7 (.loop 1 none 140 13 E [45, 46] A13_0 B13_0)) (by rw [lens]; exact rl) n a z u g o m (by rw [List.getElem?_set_ne (by decide)]; exact r1) (by rw [List.getElem?_set_ne (by decide)]; exact r3) r e_r i (yldK 7 ρ.length) Q (fun env loc => fin _ env loc h.symm)
  rw [lens] at q
  exact q
def walk (n : Nat) (a : Automaton) (z : List Int) : Nat → Tree → PS × Int → Option (PS × Int)
 | 0, _, _ => none
 | k + 1, t, s =>
  rangeL t.Kids s (fun _ _ x1 s1 n1 => (walk n a z k x1 s1).bind fun v => n1 v) fun s1 =>
  (stp n a z t s1.1).bind fun p => some (p, w64 (s1.2 + 1))
theorem spec65 {E : Env} (hE4 : get E 4 = .ptr 1 0) (hE10 : get E 10 = .ptr 5 0) (hE8 : get E 8 = .ptr 3 0) (hEl : ∀ t, ltV 7 (get E t) = true) (n : Nat) (a : Automaton) (z : List Int) : ∀ (k : Nat) (σ : List AObj) (w : WF E a z σ) (t : Tree) (s r : PS × Int), walk n a z k t s = some r →
 call Try.prog T H (.fn 65) [.p (.agg [iv t.Sym, .sl none 2 (List.map row_Tree t.Kids)]), .ptr 10 0, .ptr 9 0, .ptr 8 0] (wS σ s) = some (.ret (.p (bv true)), wS σ r) := by
 intro k
 induction k with
 | zero => intro σ w t s r h; cases h
 | succ k ih =>
  intro σ w t s r h
  refine Sat.fn fun Q hQ => ?_
  rw [walk] at h
  have hl := w.len
  have b9n : ∀ s, (wS σ s)[9]? = some (.cells [.p (iv s.2)]) := fun s => wS_9 _ hl
  have b9 : ∀ s l, (wS σ s ++ l)[9]? = some (.cells [.p (iv s.2)]) := fun s l => by rw [List.getElem?_append_left (by rw [wS_len]; omega), wS_9 _ hl]
  have b8 : ∀ s l, (wS σ s ++ l)[8]? = some (.cells [.yld 7]) := fun s l => by rw [List.getElem?_append_left (by rw [wS_len]; omega), wS_get _ _ (by decide), w.o8]
  have b10 : ∀ s l, (wS σ s ++ l)[10]? = some (.cells [.fn 65 [.ptr 10 0, .ptr 9 0, .ptr 8 0]]) := fun s l => by rw [List.getElem?_append_left (by rw [wS_len]; omega), wS_get _ _ (by decide), w.o10]
  have bs9 : ∀ s l m, (wS σ s ++ l).set 9 (.cells [.p (iv m)]) = wS σ (s.1, m) ++ l := fun s l m => by rw [List.set_append_left _ _ (by rw [wS_len]; omega), wS_set9]
  have g0 : ∀ s l, (wS σ s ++ l)[σ.length]? = l[0]? := fun s l => sA0 (wS_len σ s)
  have gk : ∀ s l k, (wS σ s ++ l)[σ.length + k]? = l[k]? := fun s l k => sAK (wS_len σ s)
  have s0 : ∀ s l y, (wS σ s ++ l).set σ.length y = wS σ s ++ l.set 0 y := fun s l y => sS0 (wS_len σ s)
  have sk : ∀ s l y k, (wS σ s ++ l).set (σ.length + k) y = wS σ s ++ l.set k y := fun s l y k => sSK (wS_len σ s)
  have t0 : ∀ s l, (wS σ s ++ l).take σ.length = wS σ s := fun s l => sT0 (wS_len σ s)
  have tk : ∀ s l k, (wS σ s ++ l).take (σ.length + k) = wS σ s ++ l.take k := fun s l k => sTK (wS_len σ s)
  have tx : ∀ s, (wS σ s).take σ.length = wS σ s := fun s => sTX (wS_len σ s)
  have l10 : ∀ k, 10 < σ.length + k ∧ 9 < σ.length + k ∧ 8 < σ.length + k := fun k => by omega
  rw [call65]
  conv => arg 1; arg 7; unfold S22.c65 Try.f65; simp only [Option.getD_some]
  simp only [go_sem, wS_len, b9, b9n, b8, b10, bs9, g0, gk, s0, sk, t0, tk, tx]
  refine run_rangeL (c := L65_0) (live := [1, 2, 3, 4, 9, 10, 11]) (by simp only [go_sem]) (M := fun i1 (s1 : PS × Int) => [(1, .ptr 10 0), (2, .ptr 9 0), (3, .ptr 8 0), (4, .ptr σ.length 0), (9, .p (.sl none 2 (List.map row_Tree t.Kids))), (10, .p (iv (t.Kids.length : Int))), (11, .p (iv (i1 : Int)))]) (Z := fun i1 s1 => wS σ s1 ++ [.cells [.p (iv t.Sym), .p (.sl none 2 (List.map row_Tree t.Kids))]]) (N := fun s1 => ⟨[(2, .ptr 9 0), (3, .ptr 8 0), (4, .ptr σ.length 0)], wS σ s1 ++ [.cells [.p (iv t.Sym), .p (.sl none 2 (List.map row_Tree t.Kids))]], [], none, false⟩) h rfl rfl (fun _ _ => rfl) ?_ ?_ ?_
  ·intro s1 h
   try dsimp only at h ⊢
   obtain ⟨p, e_p, h⟩ := ob h
   injection h with h; subst h
   have yy : ∀ i l, call Try.prog T H (.yld 7) [.p (iv i), .p (.agg [iv t.Sym, .sl none 2 (List.map row_Tree t.Kids)])] (wS σ (s1.1, w64 (s1.2 + 1)) ++ l) = some (.ret (.p (bv true)), wS σ (p, w64 (s1.2 + 1)) ++ l) := fun i l => yld_spec hE4 hE10 hE8 hEl n a z w t (s1.1, w64 (s1.2 + 1)) p e_p i l
   simp only [go_sem, wS_len, b9, b9n, b8, b10, bs9, g0, gk, s0, sk, t0, tk, tx, yy]
   exact Sat.ok hQ
  ·intro K1 s1 hb1 he1
   try dsimp only
   conv => arg 1; arg 7; unfold L65_0 loopAt S22.c65 Try.f65; simp only [loopIn, Option.getD_some, if_true]
   simp only [go_sem, he1, wS_len, b9, b9n, b8, b10, bs9, g0, gk, s0, sk, t0, tk, tx, l10]
   exact hb1
  ·intro K1 k1 i1 x1 s1 n1 hR1 hE1 hb1 hx1 hi1 hw1 ih1 h
   try dsimp only at h ⊢
   conv => arg 1; arg 7; unfold L65_0 loopAt S22.c65 Try.f65; simp only [loopIn, Option.getD_some, if_true]
   obtain ⟨v2, e_v2, h⟩ := ob h
   have e_v2c : ∀ l, call Try.prog T H (.fn 65) [.p (.agg [iv x1.Sym, .sl none 2 (List.map row_Tree x1.Kids)]), .ptr 10 0, .ptr 9 0, .ptr 8 0] (wS σ s1 ++ l) = some (.ret (.p (bv true)), wS σ v2 ++ l) := fun l => by
    have q := ih (σ ++ l) (w.app l) x1 s1 v2 e_v2
    rw [← wS_app _ hl, ← wS_app _ hl] at q
    exact q
   simp only [go_sem, hx1, hi1, hw1, e_v2c, hR1, hE1, wS_len, b9, b9n, b8, b10, bs9, g0, gk, s0, sk, t0, tk, tx, l10]
   exact ih1 v2 h
end Hol
end Go.AM.S22

namespace Go.AM.S22
open Go Go.Proofs Go.AM
set_option linter.unusedVariables false
set_option maxRecDepth 100000
def toH (t : Tree) (c : ref22_cut) : repair_holes := if c.some = true then ⟨true, c.nodes, c.l⟩ else ⟨false, tsT t, [[]]⟩
theorem toH_get (t : Tree) (row : List ref22_cut) (i : Nat) (h : i < row.length) : (row.map (toH t))[i]? = some (toH t ((row[i]?).getD zh)) := by
 rw [List.getElem?_map, List.getElem?_eq_getElem h]; rfl
theorem hprog_inner {m : Nat} {R : Type} (G : Nat → Option (List repair_holes)) (F : Option R) : ∀ (ks : List (List ref22_cut)) (kl : List Tree) (xs : List Int) (p : Nat) (b : Int) (l : List (List Int)) (k : Int × List (List Int) → Option R), HK m ks kl → (∀ i r t, ks[i]? = some r → kl[i]? = some t → G (p + i) = some (r.map (toH t))) → xs.length = ks.length → (∀ x ∈ xs, 0 ≤ x ∧ x < (m : Int)) →
 0 ≤ b → b + tsL kl ≤ 1000 → l.length + tsL kl ≤ 1000 → tdL kl ≤ 1000 →
 rangeC (fun i3 (x3 : Int) (s3 : Int × (List (List Int))) n3 =>
  (G i3).bind fun v1 =>
  (idx v1 x3).bind fun v2 =>
  if v2.ok = true then
   rangeL v2.list s3.2 (fun k4 i4 x4 (s4 : (List (List Int))) n4 =>
    (app 8 [(i3 : Int)] x4).bind fun v3 =>
    (app 24 s4 [v3]).bind fun v4 =>
    n4 v4) fun s4 =>
   n3 (w64 (s3.1 + v2.gone), s4)
  else F) xs p (b, l) k = if (hf p ks xs (true, b, l)).1 = true then k ((hf p ks xs (true, b, l)).2.1, (hf p ks xs (true, b, l)).2.2) else F
 | [], [], [], p, b, l, k, _, _, _, _, _, _, _, _ => by
  have : hf p [] [] (true, b, l) = (true, b, l) := by rw [hf]; exact fun _ _ _ _ h => by cases h
  rw [rangeC, this]; rfl
 | _ :: _, [], _, _, _, _, _, h, _, _, _, _, _, _, _ => h.elim
 | [], _ :: _, _, _, _, _, _, h, _, _, _, _, _, _, _ => h.elim
 | [], [], _ :: _, _, _, _, _, _, _, h, _, _, _, _, _ => by simp at h
 | _ :: _, _ :: _, [], _, _, _, _, _, _, h, _, _, _, _, _ => by simp at h
 | r :: ks, t :: kl, x :: xs, p, b, l, k, hg, hr, hl, hx, h0, h1, h2, h3 => by
  have hp := hr 0 r t rfl rfl
  rw [Nat.add_zero] at hp
  have hxx := hx x (by simp)
  have hc := hg.1.get x.toNat
  have c0 := hc.n0; have c1 := hc.n1; have c2 := hc.ll; have c3 := hc.pl
  rw [tsL] at h1 h2
  rw [tdL] at h3
  rw [rangeC, hp]
  simp only [Option.bind_some]
  have hidx : idx (r.map (toH t)) x = some (toH t ((r[x.toNat]?).getD zh)) := by
   unfold idx
   rw [if_pos hxx.1, toH_get _ _ _ (by rw [hg.1.1]; omega)]
  rw [hidx]
  simp only [Option.bind_some]
  rw [hf]
  by_cases e : ((r[x.toNat]?).getD zh).some = true
  ·have e1 : toH t ((r[x.toNat]?).getD zh) = ⟨true, ((r[x.toNat]?).getD zh).nodes, ((r[x.toNat]?).getD zh).l⟩ := if_pos e
   rw [e1]
   have hpl : ∀ q ∈ ((r[x.toNat]?).getD zh).l, q.length ≤ 1000 := fun q hq => by have := c3 q hq; omega
   have hl2 : (addP p ((r[x.toNat]?).getD zh).l).length = ((r[x.toNat]?).getD zh).l.length := by unfold addP; rw [List.length_map]
   rw [if_pos rfl, rangeL]
   simp only []
   rw [if_pos (by omega), pre_eq p _ _ 0 _ hpl (by omega), w64_eq (by omega) (by omega), e, Bool.and_true]
   exact hprog_inner G F ks kl xs (p + 1) (b + ((r[x.toNat]?).getD zh).nodes) (l ++ addP p ((r[x.toNat]?).getD zh).l) k hg.2 (fun i r' t' hi ht => by have := hr (i + 1) r' t' (by simpa using hi) (by simpa using ht); rwa [show p + (i + 1) = p + 1 + i by omega] at this) (by simpa using hl) (fun y hy => hx y (List.mem_cons_of_mem _ hy)) (by omega) (by omega) (by simp only [List.length_append, hl2]; omega) (by omega)
  ·have e := eq_false_of_ne_true e
   have e1 : toH t ((r[x.toNat]?).getD zh) = ⟨false, tsT t, [[]]⟩ := if_neg (by rw [e]; decide)
   rw [e1, if_neg (by simp), if_neg]
   rw [hf_false]
   ·simp
   ·simp only [e, Bool.and_false]
def hz0 : repair_holes := ⟨false, 0, []⟩
def withP (ks : List (List ref22_cut)) (x : Rule) (sym : Int) : repair_holes × Bool :=
 if x.Sym = sym then
  (if (hf 0 ks x.From (true, 0, [])).1 = true then (⟨true, (hf 0 ks x.From (true, 0, [])).2.1, (hf 0 ks x.From (true, 0, [])).2.2⟩, true) else (hz0, false))
 else (hz0, false)
theorem within_eq {m : Nat} {ks : List (List ref22_cut)} {u : Tree} {x : Rule} {o : List (List repair_holes)} {off : Nat} (hg : HK m ks u.Kids) (hs : tsT u ≤ 80) (hlen : x.Sym = u.Sym → x.From.length = ks.length) (ho : ∀ i r t, ks[i]? = some r → u.Kids[i]? = some t → o[off + i]? = some (r.map (toH t))) (hf : x.From.length ≤ 30) (hx : ∀ s ∈ x.From, 0 ≤ s ∧ s < (m : Int)) :
 repair_within_xxq x u o ks.length off = some (withP ks x u.Sym) := by
 have hkl := tlen u.Kids
 have hts := tsT_eq u
 have htd := tdT_eq u
 have htl := td_le u
 have hln := hg.len
 have hG : ∀ i r t, ks[i]? = some r → u.Kids[i]? = some t → idxS off ks.length o ((0 + i : Nat) : Int) = some (r.map (toH t)) := fun i r t hi ht => by
  have hlt := (List.getElem?_eq_some_iff.1 hi).1
  unfold idxS
  rw [if_pos (by omega), Int.toNat_natCast, Nat.zero_add]
  exact ho i r t hi ht
 unfold repair_within_xxq withP
 by_cases c1 : x.Sym = u.Sym
 ·rw [if_pos c1, if_pos c1, rangeL, if_pos (by omega)]
  rw [hprog_inner (m := m) (fun i => idxS off ks.length o (i : Int)) _ ks u.Kids x.From 0 0 [] _ hg hG (hlen c1) hx (Int.le_refl _) (by omega) (by simp only [List.length_nil]; omega) (by omega)]
  split <;> rfl
 ·rw [if_neg c1, if_neg c1]; rfl
theorem within0_eq {m : Nat} {u : Tree} {x : Rule} (hk : u.Kids = []) (hlen : x.Sym = u.Sym → x.From.length = 0) (hf : x.From.length ≤ 30) (hx : ∀ s ∈ x.From, 0 ≤ s ∧ s < (m : Int)) :
 repair_within x u [] = some (withP [] x u.Sym) := by
 have hg : HK m [] [] := trivial
 unfold repair_within withP
 by_cases c1 : x.Sym = u.Sym
 ·rw [if_pos c1, if_pos c1, rangeL, if_pos (by omega)]
  rw [hprog_inner (m := m) (fun i => ([] : List (List repair_holes))[i]?) _ [] [] x.From 0 0 [] _ hg (fun i r t hi ht => by simp at hi) (hlen c1) hx (Int.le_refl _) (by rw [tsL]; omega) (by rw [tsL]; simp) (by rw [tdL]; omega)]
  split <;> rfl
 ·rw [if_neg c1, if_neg c1]; rfl
theorem fewerH_eq {u t : Tree} {c d : ref22_cut} (hc : SmL c.l) : repair_fewer ⟨true, c.nodes, c.l⟩ (toH t d) = some (cutB c d) := by
 by_cases e : d.some = true
 ·have e1 : toH t d = ⟨d.some, d.nodes, d.l⟩ := by unfold toH; rw [if_pos e, e]
  rw [e1]
  exact fewer_eq c d hc true
 ·have e1 : toH t d = ⟨false, tsT t, [[]]⟩ := if_neg e
  rw [e1, show cutB c d = true by unfold cutB; rw [if_neg e]]
  exact (fewer_eq c ⟨false, tsT t, [[]]⟩ hc true).trans rfl
theorem hrow_loop {a : Automaton} (ha : OKa a) {u : Tree} {ks : List (List ref22_cut)} (hg : HK a.States.toNat ks u.Kids) (hs : tsT u ≤ 80) (X : Rule → Option (repair_holes × Bool)) (hX : ∀ x ∈ a.Rules, X x = some (withP ks x u.Sym)) {R : Type} :
 ∀ (l : List Rule) (i : Nat) (row : List ref22_cut) (k : List repair_holes → Option R), (∀ x ∈ l, x ∈ a.Rules) → HR a.States.toNat u row →
 rangeC (fun i2 x2 (s2 : (List repair_holes)) n2 => (X x2).bind fun v6 => if v6.2 = true then (idxM ((a.States).toNat) s2 x2.To).bind fun v7 => (repair_fewer v6.1 v7).bind fun v8 => if v8 = true then n2 (List.set s2 ((x2.To).toNat) v6.1) else n2 s2 else n2 s2) l i (row.map (toH u)) k = k ((l.foldl (stepH ks u.Sym) row).map (toH u))
 | [], i, row, k, _, _ => by rw [rangeC]; rfl
 | x :: l, i, row, k, hm, hr => by
  have hx := hm x (by simp)
  have hto := ha.to x hx
  have ih := hrow_loop ha hg hs X hX l (i + 1) (stepH ks u.Sym row x) k (fun y hy => hm y (List.mem_cons_of_mem _ hy)) (step_HR hg hr x)
  rw [rangeC, hX x hx, List.foldl_cons, ← ih]
  simp only [Option.bind_some]
  unfold stepH withP
  by_cases c1 : x.Sym = u.Sym
  ·rw [if_pos c1, if_pos c1]
   by_cases c2 : (hf 0 ks x.From (true, 0, [])).1 = true
   ·rw [if_pos c2, if_pos c2]
    simp only [if_true]
    have hrow : idxM a.States.toNat (row.map (toH u)) x.To = some (toH u ((row[x.To.toNat]?).getD zh)) := by
     unfold idxM
     rw [if_pos (by omega), toH_get _ _ _ (by rw [hr.1]; omega)]
    rw [hrow]
    simp only [Option.bind_some]
    have hb := fewerH_eq (u := u) (t := u) (c := mkH (hf 0 ks x.From (true, 0, []))) (d := (row[x.To.toNat]?).getD zh) (sml_hf hg hs x.From)
    have hmk : toH u (mkH (hf 0 ks x.From (true, 0, []))) = ⟨true, (hf 0 ks x.From (true, 0, [])).2.1, (hf 0 ks x.From (true, 0, [])).2.2⟩ := rfl
    have hb : repair_fewer ⟨true, (hf 0 ks x.From (true, 0, [])).2.1, (hf 0 ks x.From (true, 0, [])).2.2⟩ (toH u ((row[x.To.toNat]?).getD zh)) = _ := hb
    rw [hb]
    simp only [Option.bind_some]
    by_cases c3 : cutB (mkH (hf 0 ks x.From (true, 0, []))) ((row[x.To.toNat]?).getD zh) = true
    ·rw [if_pos c3, if_pos c3, List.map_set, hmk]
    ·rw [if_neg c3, if_neg c3]
   ·rw [if_neg c2, if_neg c2]
    simp only [Bool.false_eq_true, if_false]
  ·rw [if_neg c1, if_neg c1]
   simp only [Bool.false_eq_true, if_false]
theorem hmk_eq {a : Automaton} (ha : OKa a) : mkz 40 a.States a.States (repair_holes.mk false 0 ([] : List (List Int))) = some (List.replicate a.States.toNat hz0) := by
 have hst := ha.st
 unfold mkz hz0; rw [if_pos (by omega)]
theorem hini_eq {R : Type} {a : Automaton} (ha : OKa a) {z : List Int} (hz : z.length = a.States.toNat) {n : Nat} {u : Tree} (hd : tdT u < n) (hs : tsT u ≤ 80) (k : List repair_holes → Option R) : rangeI ((a.States).toNat : Int) (List.replicate a.States.toNat hz0) (fun k1 i1 (s1 : (List repair_holes)) n1 =>
 (z[i1]?).bind fun v9 =>
 (tree_Size n u).bind fun v10 =>
 (idxM ((a.States).toNat) s1 (i1 : Int)).bind fun v11 =>
 n1 (List.set s1 i1 (repair_holes.mk (decide (0 < v9)) v10 [([] : List Int)]))) k = k ((iniH (posV z) (tsT u)).map (toH u)) := by
 have hst := ha.st
 rw [rangeI, if_pos (by omega), Int.toNat_natCast]
 have hini := iniG (β := repair_holes) (f := fun v => ⟨decide (0 < v), (tsT u : Int), [[]]⟩) (z0 := hz0) hz (body := fun i1 (_ : Unit) (s1 : (List repair_holes)) n1 =>
  (z[i1]?).bind fun v9 =>
  (tree_Size n u).bind fun v10 =>
  (idxM ((a.States).toNat) s1 (i1 : Int)).bind fun v11 =>
  n1 (List.set s1 i1 (repair_holes.mk (decide (0 < v9)) v10 [([] : List Int)]))) (fun i s n1 v hv hl hs0 => by
   have hlt := (List.getElem?_eq_some_iff.1 hs0).1
   have : idxM a.States.toNat s (i : Int) = some hz0 := by unfold idxM; rw [if_pos (by omega), Int.toNat_natCast, hs0]
   rw [hv, Option.bind_some, tree_Size_eq n u hd (by omega), Option.bind_some, this]; rfl) k z [] rfl
 have hinie : z.map (fun v => (⟨decide (0 < v), (tsT u : Int), [[]]⟩ : repair_holes)) = (iniH (posV z) (tsT u)).map (toH u) := by
  unfold iniH posV
  rw [List.map_map, List.map_map]
  apply List.map_congr_left
  intro v _
  simp only [Function.comp_apply, decide_eq_true_eq]
  by_cases c : 0 < v
  ·rw [if_pos c, decide_eq_true c]; rfl
  ·rw [if_neg c, decide_eq_false c]; rfl
 rw [← hinie, ← hini, hz]
 rfl
theorem happ1_eq {base : Nat} {o : List (List repair_holes)} (row : List repair_holes) (hb : base ≤ 500) (hlo : base ≤ o.length) : appM 24 base o [row] = some (o.take base ++ [row]) := by
 unfold appM
 rw [if_pos (by simp only [List.length_cons, List.length_nil]; omega)]
def pT (a : Automaton) (zs : List Bool) (t : Tree) : List repair_holes := (cuT a zs t).map (toH t)
theorem hall_eq {a : Automaton} {zs : List Bool} (hz : zs.length = a.States.toNat) (u : Tree) : allM 0 a.States.toNat (pT a zs u) = some (pT a zs u) := by
 have hG := cuT_HR a hz u
 have hl : (pT a zs u).length = a.States.toNat := by unfold pT; rw [List.length_map, hG.1]
 unfold allM
 rw [if_pos (by omega), List.drop_zero, List.take_of_length_le (by omega)]
theorem hrows_eq {a : Automaton} (ha : OKa a) {zs : List Bool} (hz : zs.length = a.States.toNat) {u : Tree} (hs : tsT u ≤ 80) (X : Rule → Option (repair_holes × Bool)) (hX : ∀ x ∈ a.Rules, X x = some (withP (cuL a zs u.Kids) x u.Sym)) {R : Type} (k : List repair_holes → Option R) :
 rangeL a.Rules ((iniH zs (tsT u)).map (toH u)) (fun k2 i2 x2 (s2 : (List repair_holes)) n2 => (X x2).bind fun v6 => if v6.2 = true then (idxM ((a.States).toNat) s2 x2.To).bind fun v7 => (repair_fewer v6.1 v7).bind fun v8 => if v8 = true then n2 (List.set s2 ((x2.To).toNat) v6.1) else n2 s2 else n2 s2) k = k (pT a zs u) := by
 have hrl := ha.rul
 rw [rangeL, if_pos (by omega)]
 rw [hrow_loop ha (cuL_HK a hz u.Kids) hs X hX a.Rules 0 _ _ (fun _ h => h) (iniH_HR hz u)]
 unfold pT
 rw [cuT_eq]; rfl
open Hol in
theorem holRow_eq {r : List Int} {a : Automaton} (ha : OKa a) (hfit : Fit r a) {z : List Int} (hz : z.length = a.States.toNat) {n : Nat} {u : Tree} (hd : tdT u < n) (hs : tsT u ≤ 80) (hsh : shT r u = true) {o : List (List repair_holes)} {l base : Nat} (hl : l = base + u.Kids.length) (hlo : l ≤ o.length) (hb : base ≤ 500)
 (ho : ∀ i t, u.Kids[i]? = some t → o[base + i]? = some (pT a (posV z) t)) : holRow n a z u o l = some (o.take base ++ [pT a (posV z) u], base + 1) := by
 have hkl := tlen u.Kids
 have hts := tsT_eq u
 have hzp : (posV z).length = a.States.toNat := by unfold posV; rw [List.length_map, hz]
 have hKl := cuL_len a (posV z) u.Kids
 have hcut := cut_eq (k := u.Kids.length) hl hb (by omega)
 obtain ⟨hsk, _⟩ := sh_out hsh
 unfold holRow
 rw [hmk_eq ha, Option.bind_some, hini_eq ha hz hd hs]
 simp only [hcut, Option.bind_some]
 rw [hrows_eq ha hzp hs (fun x => repair_within_xxq x u o (l - base) base) (fun x hx => by
  rw [show l - base = (cuL a (posV z) u.Kids).length by omega]
  exact within_eq (cuL_HK a hzp u.Kids) hs (fun e => by have := hfit x hx; rw [e] at this; omega) (fun i r t hi ht => by
   rw [ho i t ht]
   rw [cuL_get a (posV z) u.Kids i t ht] at hi
   injection hi with hi
   rw [← hi]; rfl) (ha.frm x hx) (fun s hs => by have := ha.from' x hx s hs; omega))]
 rw [hall_eq hzp, Option.bind_some, happ1_eq _ hb (by omega), Option.bind_some]
open Hol in
theorem holRow0_eq {r : List Int} {a : Automaton} (ha : OKa a) (hfit : Fit r a) {z : List Int} (hz : z.length = a.States.toNat) {n : Nat} {u : Tree} (hd : tdT u < n) (hs : tsT u ≤ 80) (hsh : shT r u = true) (hk : u.Kids = []) : holRow0 n a z u = some ([pT a (posV z) u], 1) := by
 have hzp : (posV z).length = a.States.toNat := by unfold posV; rw [List.length_map, hz]
 have hc0 : cuL a (posV z) u.Kids = [] := by rw [hk, cuL]
 have hcut : cutM 0 (w64 (0 - (u.Kids.length : Int))) = some 0 := by rw [hk]; exact cut_eq (l := 0) (base := 0) (k := 0) rfl (by omega) (by omega)
 obtain ⟨hsk, _⟩ := sh_out hsh
 have hk0 : u.Kids.length = 0 := by rw [hk]; rfl
 unfold holRow0
 rw [hmk_eq ha, Option.bind_some, hini_eq ha hz hd hs]
 simp only [hcut, Option.bind_some]
 rw [hrows_eq ha hzp hs (fun x => repair_within x u []) (fun x hx => by
  rw [hc0]
  exact within0_eq (m := a.States.toNat) hk (fun e => by have := hfit x hx; rw [e] at this; omega) (ha.frm x hx) (fun s hs => by have := ha.from' x hx s hs; omega))]
 rw [hall_eq hzp, Option.bind_some, happ1_eq _ (by omega) (by simp), Option.bind_some]
 rfl
namespace Hol
def pl : PS → List (List repair_holes)
 | none => []
 | some (_, o, l) => o.take l
def pk : PS → Prop
 | none => True
 | some (_, o, l) => l ≤ o.length
theorem stp_eq {r : List Int} {a : Automaton} (ha : OKa a) (hfit : Fit r a) {z : List Int} (hz : z.length = a.States.toNat) {n : Nat} {u : Tree} (hd : tdT u < n) (hs : tsT u ≤ 80) (hsh : shT r u = true) {p : PS} (hp : pk p) {base : List (List repair_holes)} (hb : base.length ≤ 500) (he : pl p = base ++ u.Kids.map (pT a (posV z))) :
 ∃ q, stp n a z u p = some q ∧ pk q ∧ pl q = base ++ [pT a (posV z) u] := by
 rcases p with _ | ⟨g, o, l⟩
 ·have h0 : base = [] ∧ u.Kids.map (pT a (posV z)) = [] := List.append_eq_nil_iff.1 he.symm
  have hk : u.Kids = [] := List.map_eq_nil_iff.1 h0.2
  unfold stp
  simp only []
  rw [holRow0_eq ha hfit hz hd hs hsh hk, h0.1]
  exact ⟨_, rfl, by simp [pk], by simp [pl]⟩
 ·simp only [pk] at hp
  simp only [pl] at he
  have hlen := congrArg List.length he
  rw [List.length_take, List.length_append, List.length_map] at hlen
  have hl : l = base.length + u.Kids.length := by omega
  have ho : ∀ i t, u.Kids[i]? = some t → o[base.length + i]? = some (pT a (posV z) t) := fun i t hi => by
   have hlt := (List.getElem?_eq_some_iff.1 hi).1
   have h1 : (o.take l)[base.length + i]? = some (pT a (posV z) t) := by
    rw [he, List.getElem?_append_right (by omega), show base.length + i - base.length = i by omega, List.getElem?_map, hi]; rfl
   rw [List.getElem?_take, if_pos (by omega)] at h1
   exact h1
  unfold stp
  simp only []
  rw [holRow_eq ha hfit hz hd hs hsh hl hp hb ho]
  have htk : o.take base.length = base := by
   have : (o.take l).take base.length = base := by rw [he, List.take_left']; rfl
   rw [List.take_take, show min base.length l = base.length by omega] at this
   exact this
  refine ⟨_, rfl, ?_, ?_⟩
  ·simp only [pk, List.length_append, List.length_take, List.length_cons, List.length_nil]; omega
  ·simp only [pl]
   rw [htk, List.take_of_length_le (by simp)]
theorem walk_eq {r : List Int} {a : Automaton} (ha : OKa a) (hfit : Fit r a) {z : List Int} (hz : z.length = a.States.toNat) {n : Nat} : ∀ (k : Nat) (t : Tree) (p : PS) (m : Int), tdT t < k → tdT t < n → tsT t ≤ 80 → shT r t = true → pk p → (pl p).length + tsT t ≤ 500 →
 ∃ q m', walk n a z k t (p, m) = some (q, m') ∧ pk q ∧ pl q = pl p ++ [pT a (posV z) t] := by
 intro k
 induction k with
 | zero => intro t p m h; omega
 | succ k ih =>
  intro t p m hd hn hs hsh hp hb
  obtain ⟨hsk, hsl⟩ := sh_out hsh
  have hkl := tlen t.Kids
  have hts := tsT_eq t
  have htd := tdT_eq t
  rw [walk, rangeL, if_pos (by omega)]
  suffices H : ∀ (l : List Tree) (i : Nat) (p : PS) (m : Int) (K : PS × Int → Option (PS × Int)), (∀ x ∈ l, x ∈ t.Kids) → pk p → (pl p).length + tsL l ≤ 500 →
   ∃ q m', rangeC (fun (_ : Nat) x1 s1 n1 => (walk n a z k x1 s1).bind fun v => n1 v) l i (p, m) K = K (q, m') ∧ pk q ∧ pl q = pl p ++ l.map (pT a (posV z)) by
   obtain ⟨q, m', h1, h2, h3⟩ := H t.Kids 0 p m _ (fun _ h => h) hp (by omega)
   obtain ⟨q2, e1, e2, e3⟩ := stp_eq ha hfit hz hn hs hsh h2 (base := pl p) (by omega) h3
   rw [h1]
   simp only []
   rw [e1]
   exact ⟨q2, _, rfl, e2, e3⟩
  intro l
  induction l with
  | nil => intro i p m K _ hp _; exact ⟨p, m, by rw [rangeC], hp, by simp⟩
  | cons x l ihl =>
   intro i p m K hm hp hb
   have hx := td_mem (hm x (by simp))
   have hx2 := ts_mem (hm x (by simp))
   rw [tsL] at hb
   obtain ⟨q, m1, e1, e2, e3⟩ := ih x p m (by omega) (by omega) (by omega) (shL_mem hsl x (hm x (by simp))) hp (by omega)
   have hq : (pl q).length = (pl p).length + 1 := by rw [e3]; simp
   have hx3 := tsT_eq x
   obtain ⟨q2, m2, f1, f2, f3⟩ := ihl (i + 1) q m1 K (fun y hy => hm y (List.mem_cons_of_mem _ hy)) e2 (by omega)
   refine ⟨q2, m2, ?_, f2, ?_⟩
   ·rw [rangeC, e1]; exact f1
   ·rw [f3, e3]; simp
end Hol
end Go.AM.S22

namespace Go.AM
open Go
theorem hOf_pr {f : FuncId} : ∀ {l : List (Nat × FH)}, (l.all fun p => p.2.pr.isNone) = true → (hOf l f).pr = none
 | [], _ => rfl
 | (k, h) :: r, ha => by
  rw [List.all_cons, Bool.and_eq_true] at ha
  unfold hOf
  split
  ·have := ha.1
   cases hp : h.pr with
   | none => rfl
   | some p => simp [hp] at this
  ·exact hOf_pr ha.2
section
variable {T : Tab}
theorem wt_int {n : Nat} {t : TypeId} {cs : List PV} (hd : (T.at t).d = .int .i64) (h : wt T n t cs) : ∃ i, cs = [iv i] ∧ -9223372036854775808 ≤ i ∧ i ≤ 9223372036854775807 := by
 cases n with
 | zero => exact h.elim
 | succ n =>
  unfold wt at h
  rw [hd] at h
  obtain ⟨i, rfl, h1, h2⟩ := h
  refine ⟨i, rfl, ?_⟩
  have e1 : IntKind.i64.min = -9223372036854775808 := by decide
  have e2 : IntKind.i64.max = 9223372036854775807 := by decide
  rw [e1] at h1; rw [e2] at h2
  exact ⟨h1, h2⟩
theorem wt_sl {n : Nat} {t e : TypeId} {cs : List PV} (hd : (T.at t).d = .sl e) (h : wt T n t cs) : ∃ m rows, n = m + 1 ∧ cs = [.sl none (T.at e).size rows] ∧ rows.length < 9223372036854775808 ∧ ∀ r, r ∈ rows → wt T m e r := by
 cases n with
 | zero => exact h.elim
 | succ n =>
  unfold wt at h
  rw [hd] at h
  obtain ⟨rows, rfl, h1, h2⟩ := h
  have : maxLen < 9223372036854775808 := by decide
  exact ⟨n, rows, rfl, rfl, by omega, h2⟩
theorem wt_st {n : Nat} {t : TypeId} {fs : List (Nat × TypeId)} {cs : List PV} (hd : (T.at t).d = .st fs) (h : wt T n t cs) : ∃ m, n = m + 1 ∧ cs.length = (T.at t).size ∧ ∀ f, f ∈ fs → wt T m f.2 ((cs.drop f.1).take (T.at f.2).size) := by
 cases n with
 | zero => exact h.elim
 | succ n =>
  unfold wt at h
  rw [hd] at h
  exact ⟨n, rfl, h⟩
theorem rows_map {α : Type} {row : α → List PV} {P : α → Prop} : ∀ {rows : List (List PV)}, (∀ r, r ∈ rows → ∃ x, r = row x ∧ P x) → ∃ xs : List α, rows = xs.map row ∧ ∀ x, x ∈ xs → P x
 | [], _ => ⟨[], rfl, by simp⟩
 | r :: rows, h => by
  obtain ⟨x, rfl, hx⟩ := h r (by simp)
  obtain ⟨xs, rfl, hxs⟩ := rows_map (rows := rows) (fun r' h' => h r' (List.mem_cons_of_mem _ h'))
  exact ⟨x :: xs, rfl, fun y hy => by
   rcases List.mem_cons.1 hy with rfl | hy
   ·exact hx
   ·exact hxs y hy⟩
theorem wt_slM {n : Nat} {t e : TypeId} {cs : List PV} {α : Type} {row : α → List PV} {P : α → Prop} (hd : (T.at t).d = .sl e) (h : wt T n t cs) (he : ∀ m r, m < n → wt T m e r → ∃ x, r = row x ∧ P x) : ∃ xs : List α, cs = [.sl none (T.at e).size (xs.map row)] ∧ xs.length < 9223372036854775808 ∧ ∀ x, x ∈ xs → P x := by
 obtain ⟨m, rows, rfl, rfl, h1, h2⟩ := wt_sl hd h
 obtain ⟨xs, rfl, hx⟩ := rows_map (row := row) (P := P) (fun r hr => he m r (by omega) (h2 r hr))
 exact ⟨xs, rfl, by simpa using h1, hx⟩
end
end Go.AM

namespace Go.AM.S22
open Go Go.Proofs Go.AM
set_option linter.unusedVariables false
theorem twL_all : ∀ {l : List Tree}, (∀ x, x ∈ l → twT x = true) → twL l = true
 | [], _ => by rw [twL]
 | x :: r, h => by rw [twL, h x (by simp), twL_all (fun y hy => h y (List.mem_cons_of_mem _ hy))]; rfl
theorem d3 : (T.at 3).d = .int .i64 := rfl
theorem d30 : (T.at 30).d = .st [(0, 3), (1, 28)] := rfl
theorem d28 : (T.at 28).d = .sl 30 := rfl
theorem d22 : (T.at 22).d = .sl 3 := rfl
theorem d24 : (T.at 24).d = .st [(0, 22)] := rfl
theorem d25 : (T.at 25).d = .sl 64 := rfl
theorem d27 : (T.at 27).d = .st [(0, 3), (1, 22), (2, 25)] := rfl
theorem d64 : (T.at 64).d = .st [(0, 3), (1, 22), (2, 3)] := rfl
theorem sz3 : (T.at 3).size = 1 := rfl
theorem sz28 : (T.at 28).size = 1 := rfl
theorem sz30 : (T.at 30).size = 2 := rfl
theorem sz22 : (T.at 22).size = 1 := rfl
theorem sz24 : (T.at 24).size = 1 := rfl
theorem sz25 : (T.at 25).size = 1 := rfl
theorem sz27 : (T.at 27).size = 3 := rfl
theorem sz64 : (T.at 64).size = 3 := rfl
theorem wt30 : ∀ (n : Nat) (cs : List PV), wt T n 30 cs → ∃ x : Tree, cs = row_Tree x ∧ twT x = true := by
 intro n
 induction n using Nat.strongRecOn with
 | _ n ih =>
  intro cs h
  obtain ⟨m, rfl, h1, h2⟩ := wt_st d30 h
  rw [sz30] at h1
  match cs, h1 with
  | [c0, c1], _ =>
   have f0 := h2 (0, 3) (by simp)
   have f1 := h2 (1, 28) (by simp)
   simp only [sz3, sz28, List.drop_zero, List.drop_succ_cons, List.take_succ_cons, List.take_zero] at f0 f1
   obtain ⟨i, e0, _⟩ := wt_int d3 f0
   obtain ⟨xs, e1, hl, hx⟩ := wt_slM (row := row_Tree) (P := fun x => twT x = true) d28 f1 (fun m' r hm hr => ih m' (by omega) r hr)
   injection e0 with e0; subst e0
   injection e1 with e1; subst e1
   refine ⟨⟨i, xs⟩, by rw [row_Tree_eq, sz30], ?_⟩
   rw [twT, decide_eq_true hl, twL_all hx]; rfl
theorem wt22 {n : Nat} {cs : List PV} (h : wt T n 22 cs) : ∃ r : List Int, cs = [.sl none 1 (r.map rowI)] ∧ r.length < 9223372036854775808 := by
 obtain ⟨xs, e, hl, _⟩ := wt_slM (row := rowI) (P := fun _ => True) d22 h (fun m' r _ hr => by
  obtain ⟨i, e, _⟩ := wt_int d3 hr
  exact ⟨i, e, trivial⟩)
 rw [sz3] at e
 exact ⟨xs, e, hl⟩
theorem wt24 {n : Nat} {cs : List PV} (h : wt T n 24 cs) : ∃ r : List Int, cs = [.sl none 1 (r.map rowI)] := by
 obtain ⟨m, rfl, h1, h2⟩ := wt_st d24 h
 rw [sz24] at h1
 match cs, h1 with
 | [c0], _ =>
  have f0 := h2 (0, 22) (by simp)
  simp only [sz22, List.drop_zero, List.take_succ_cons, List.take_zero] at f0
  obtain ⟨r, e, _⟩ := wt22 f0
  exact ⟨r, e⟩
theorem wt64 {n : Nat} {cs : List PV} (h : wt T n 64 cs) : ∃ x : Rule, cs = row_Rule x ∧ x.From.length < 9223372036854775808 := by
 obtain ⟨m, rfl, h1, h2⟩ := wt_st d64 h
 rw [sz64] at h1
 match cs, h1 with
 | [c0, c1, c2], _ =>
  have f0 := h2 (0, 3) (by simp)
  have f1 := h2 (1, 22) (by simp)
  have f2 := h2 (2, 3) (by simp)
  simp only [sz3, sz22, List.drop_zero, List.drop_succ_cons, List.take_succ_cons, List.take_zero] at f0 f1 f2
  obtain ⟨i, e0, _⟩ := wt_int d3 f0
  obtain ⟨xs, e1, hl⟩ := wt22 f1
  obtain ⟨j, e2, _⟩ := wt_int d3 f2
  injection e0 with e0; subst e0
  injection e1 with e1; subst e1
  injection e2 with e2; subst e2
  exact ⟨⟨i, xs, j⟩, rfl, hl⟩
theorem wt27 {n : Nat} {cs : List PV} (h : wt T n 27 cs) : ∃ a : Automaton, cs = row_Automaton a ∧ AW a := by
 obtain ⟨m, rfl, h1, h2⟩ := wt_st d27 h
 rw [sz27] at h1
 match cs, h1 with
 | [c0, c1, c2], _ =>
  have f0 := h2 (0, 3) (by simp)
  have f1 := h2 (1, 22) (by simp)
  have f2 := h2 (2, 25) (by simp)
  simp only [sz3, sz22, sz25, List.drop_zero, List.drop_succ_cons, List.take_succ_cons, List.take_zero] at f0 f1 f2
  obtain ⟨i, e0, _⟩ := wt_int d3 f0
  obtain ⟨xs, e1, hl⟩ := wt22 f1
  obtain ⟨rs, e2, hl2, hx⟩ := wt_slM (row := row_Rule) (P := fun x => x.From.length < 9223372036854775808) d25 f2 (fun m' r _ hr => wt64 hr)
  injection e0 with e0; subst e0
  injection e1 with e1; subst e1
  injection e2 with e2; subst e2
  exact ⟨⟨i, xs, rs⟩, rfl, hl, hl2, hx⟩
theorem primOk : PrimOk Try.prog GL H := PrimOk.none fun f => hOf_pr (by kernel_rfl)
end Go.AM.S22

namespace Go.AM.S22
open Go Go.Proofs Go.AM
set_option maxRecDepth 100000
set_option linter.unusedVariables false
set_option maxHeartbeats 4000000
def repair_Holes (n : Nat) (a0 : Alphabet) (a1 : Automaton) (a2 : Tree) : Option ((List (List Int)) × Int) :=
 (auto_Valid a0 a1).bind fun v1 =>
 if v1 = true then
  (tree_Valid n a0 a2).bind fun v2 =>
  if v2 = true then
   (empty_Sizes a0 a1).bind fun v3 =>
   if v3.2 = 0 then
    (Hol.walk n a1 v3.1 n a2 (none, 0)).bind fun v =>
    (v.1).bind fun w =>
    rangeL a1.Final (false, 0, ([] : List (List Int))) (fun k1 i1 x1 (s1 : Bool × Int × (List (List Int))) n1 =>
     (idxM w.2.2 w.2.1 0).bind fun v4 =>
     (idx v4 x1).bind fun v5 =>
     if v5.ok = true then
      (repair_fewer (repair_holes.mk true v5.gone v5.list) (repair_holes.mk s1.1 s1.2.1 s1.2.2)).bind fun v6 =>
      if v6 = true then
       n1 (true, v5.gone, v5.list)
      else
       n1 (s1.1, s1.2.1, s1.2.2)
     else
      n1 (s1.1, s1.2.1, s1.2.2)) fun s1 =>
    if s1.1 = true then
     some (s1.2.2, 0)
    else
     some (([] : List (List Int)), 5)
   else
    some (([] : List (List Int)), v3.2)
  else
   some (([] : List (List Int)), 1)
 else
  some (([] : List (List Int)), 1)
theorem spec13 (n : Nat) (a0 : Alphabet) (a1 : Automaton) (a2 : Tree) (r : (List (List Int)) × Int) (h : repair_Holes n a0 a1 a2 = some r) :
 call Try.prog T H (.fn 13) [.p (.agg [.sl none 1 (List.map rowI a0.Ranks)]), .p (.agg [iv a1.States, .sl none 1 (List.map rowI a1.Final), .sl none 3 (List.map row_Rule a1.Rules)]), .p (.agg [iv a2.Sym, .sl none 2 (List.map row_Tree a2.Kids)])] [] = some (.ret (.p (.tup [.sl none 1 (List.map (rowL 1 rowI) r.1), iv r.2])), []) := by
 refine Sat.fn fun Q hQ => ?_
 unfold repair_Holes at h
 rw [call13, cf13]
 conv => arg 1; arg 7; unfold S22.c13 Try.f13; simp only [Option.getD_some, foldR, if_true]
 obtain ⟨v1, e_v1, h⟩ := ob h
 have e_v1c := spec28 a0 a1 v1 e_v1
 by_cases c1 : v1 = true
 ·have h := iteT h c1
  obtain ⟨v2, e_v2, h⟩ := ob h
  have e_v2c := spec29 n a0 a2 v2 e_v2
  by_cases c2 : v2 = true
  ·have h := iteT h c2
   obtain ⟨v3, e_v3, h⟩ := ob h
   have e_v3c := spec37 a0 a1 v3 e_v3
   by_cases c3 : v3.2 = 0
   ·have h := iteT h c3
    have c3b : (v3.2 != 0) = false := bneF c3
    simp only [go_sem, e_v1c, c1, e_v2c, c2, e_v3c, c3b]
    refine Sat.callc ?_
    rw [call30]
    conv => arg 1; arg 7; unfold S22.c30 Try.f30; simp only [Option.getD_some]
    simp only [go_sem]
    refine Sat.ok ?_
    obtain ⟨v, e_v, h⟩ := ob h
    obtain ⟨w, e_w, h⟩ := ob h
    simp only [go_sem, e_v1c, c1, e_v2c, c2, e_v3c, c3b]
    have q : ∀ E c0 c2 c6, get E 4 = .ptr 1 0 → get E 10 = .ptr 5 0 → get E 8 = .ptr 3 0 → ltVis 7 E = true → call Try.prog T H (.fn 65) [.p (.agg [iv a2.Sym, .sl none 2 (List.map row_Tree a2.Kids)]), .ptr 10 0, .ptr 9 0, .ptr 8 0] [c0, .cells [.p (iv a1.States), .p (.sl none 1 (List.map rowI a1.Final)), .p (.sl none 3 (List.map row_Rule a1.Rules))], c2, .cells [.p (.sl none 1 (List.map rowI v3.1))], .dead, .cells [.nms 4 1], c6, .loop 0 none 140 13 E [45, 46] A13_0 B13_0, .cells [.yld 7], .cells [.p (iv 0)], .cells [.fn 65 [.ptr 10 0, .ptr 9 0, .ptr 8 0]]] = some (.ret (.p (bv true)), [c0, .cells [.p (iv a1.States), .p (.sl none 1 (List.map rowI a1.Final)), .p (.sl none 3 (List.map row_Rule a1.Rules))], c2, .cells [.p (.sl none 1 (List.map rowI v3.1))], .arr w.1 1 (List.map (rowA (rowL 3 row_repair_holes)) w.2.1), .cells [.ms 4 w.1 1 0 w.2.2], c6, .loop 0 none 140 13 E [45, 46] A13_0 B13_0, .cells [.yld 7], .cells [.p (iv v.2)], .cells [.fn 65 [.ptr 10 0, .ptr 9 0, .ptr 8 0]]]) := fun E c0 c2 c6 h4 h9 h8 hE => by
     have q := Hol.spec65 h4 h9 h8 (ltVis_iff.1 hE) n a1 v3.1 n [c0, .cells [.p (iv a1.States), .p (.sl none 1 (List.map rowI a1.Final)), .p (.sl none 3 (List.map row_Rule a1.Rules))], c2, .cells [.p (.sl none 1 (List.map rowI v3.1))], .dead, .cells [.nms 4 1], c6, .loop 0 none 140 13 E [45, 46] A13_0 B13_0, .cells [.yld 7], .cells [.p (iv 0)], .cells [.fn 65 [.ptr 10 0, .ptr 9 0, .ptr 8 0]]] ⟨by simp, rfl, rfl, rfl, rfl, rfl⟩ a2 (none, 0) v e_v
     have e1 : Hol.wS [c0, .cells [.p (iv a1.States), .p (.sl none 1 (List.map rowI a1.Final)), .p (.sl none 3 (List.map row_Rule a1.Rules))], c2, .cells [.p (.sl none 1 (List.map rowI v3.1))], .dead, .cells [.nms 4 1], c6, .loop 0 none 140 13 E [45, 46] A13_0 B13_0, .cells [.yld 7], .cells [.p (iv 0)], .cells [.fn 65 [.ptr 10 0, .ptr 9 0, .ptr 8 0]]] v = [c0, .cells [.p (iv a1.States), .p (.sl none 1 (List.map rowI a1.Final)), .p (.sl none 3 (List.map row_Rule a1.Rules))], c2, .cells [.p (.sl none 1 (List.map rowI v3.1))], .arr w.1 1 (List.map (rowA (rowL 3 row_repair_holes)) w.2.1), .cells [.ms 4 w.1 1 0 w.2.2], c6, .loop 0 none 140 13 E [45, 46] A13_0 B13_0, .cells [.yld 7], .cells [.p (iv v.2)], .cells [.fn 65 [.ptr 10 0, .ptr 9 0, .ptr 8 0]]] := by unfold Hol.wS Hol.yS; rw [e_w]; rfl
     rw [e1] at q; exact q
    refine Sat.callrange ?_
    rw [call64]
    conv => arg 1; arg 7; unfold S22.c64 Try.f64; simp only [Option.getD_some]
    simp only [go_sem, q, ltVis, List.all_cons, List.all_nil]
    refine Sat.ok ?_
    try simp only [go_sem, rangeK_ok, atLoop_some, pendK_none]
    try simp only [go_sem, e_v1c, c1, e_v2c, c2, e_v3c, c3b]
    refine run_rangeL (c := L13_6) (live := [10, 20, 114, 115, 116]) (by simp only [go_sem]) (M := fun i1 (s1 : Bool × Int × (List (List Int))) => [(10, .ptr 5 0), (20, .ptr 7 0), (114, .p (.sl none 1 (List.map rowI a1.Final))), (115, .p (iv (a1.Final.length : Int))), (116, .p (iv (i1 : Int)))]) (Z := fun i1 (s1 : Bool × Int × (List (List Int))) => [.cells [.p (.sl none 1 (List.map rowI a0.Ranks))], .cells [.p (iv a1.States), .p (.sl none 1 (List.map rowI a1.Final)), .p (.sl none 3 (List.map row_Rule a1.Rules))], .cells [.p (iv a2.Sym), .p (.sl none 2 (List.map row_Tree a2.Kids))], .cells [.p (.sl none 1 (List.map rowI v3.1))], .arr w.1 1 (List.map (rowA (rowL 3 row_repair_holes)) w.2.1), .cells [.ms 4 w.1 1 0 w.2.2], .cells [.p (iv a2.Sym), .p (.sl none 2 (List.map row_Tree a2.Kids))], .cells [.p (bv s1.1), .p (iv s1.2.1), .p (.sl none 1 (List.map (rowL 1 rowI) s1.2.2))]]) (N := fun (s1 : Bool × Int × (List (List Int))) => ⟨[(20, .ptr 7 0)], [.cells [.p (.sl none 1 (List.map rowI a0.Ranks))], .cells [.p (iv a1.States), .p (.sl none 1 (List.map rowI a1.Final)), .p (.sl none 3 (List.map row_Rule a1.Rules))], .cells [.p (iv a2.Sym), .p (.sl none 2 (List.map row_Tree a2.Kids))], .cells [.p (.sl none 1 (List.map rowI v3.1))], .arr w.1 1 (List.map (rowA (rowL 3 row_repair_holes)) w.2.1), .cells [.ms 4 w.1 1 0 w.2.2], .cells [.p (iv a2.Sym), .p (.sl none 2 (List.map row_Tree a2.Kids))], .cells [.p (bv s1.1), .p (iv s1.2.1), .p (.sl none 1 (List.map (rowL 1 rowI) s1.2.2))]], [], none, false⟩) h rfl rfl (fun _ _ => rfl) ?_ ?_ ?_
    ·intro s1 h
     try dsimp only at h ⊢
     by_cases c4 : s1.1 = true
     ·have h := iteT h c4
      simp only [go_sem, c4]
      injection h with h; subst h
      exact Sat.ok hQ
     ·have h := iteF h c4
      have c4 := eq_false_of_ne_true c4
      simp only [go_sem, c4]
      injection h with h; subst h
      exact Sat.ok hQ
    ·intro K1 s1 hb1 he1
     try dsimp only
     conv => arg 1; arg 7; unfold L13_6 loopAt S22.c13 Try.f13; simp only [loopIn, Option.getD_some, if_true]
     simp only [go_sem, he1]
     exact hb1
    ·intro K1 k1 i1 x1 s1 n1 hR1 hE1 hb1 hx1 hi1 hw1 ih1 h
     try dsimp only at h ⊢
     conv => arg 1; arg 7; unfold L13_6 loopAt S22.c13 Try.f13; simp only [loopIn, Option.getD_some, if_true]
     obtain ⟨v4, e_v4, h⟩ := ob h
     obtain ⟨e_v4a, e_v4b, e_v4d⟩ := idxM_some e_v4
     simp only [Int.reduceToNat] at e_v4b
     simp only [Int.reduceToNat] at e_v4d
     obtain ⟨v5, e_v5, h⟩ := ob h
     obtain ⟨e_v5a, e_v5b⟩ := idx_some e_v5
     by_cases c5 : v5.ok = true
     ·have h := iteT h c5
      obtain ⟨v6, e_v6, h⟩ := ob h
      have e_v6c : call Try.prog T H (.fn 40) [.p (.agg [bv true, iv v5.gone, .sl none 1 (List.map (rowL 1 rowI) v5.list)]), .p (.agg [bv s1.1, iv s1.2.1, .sl none 1 (List.map (rowL 1 rowI) s1.2.2)])] [] = some (.ret (.p (bv v6)), []) := spec40 (repair_holes.mk true v5.gone v5.list) (repair_holes.mk s1.1 s1.2.1 s1.2.2) v6 e_v6
      by_cases c6 : v6 = true
      ·have h := iteT h c6
       simp only [go_sem, hx1, hi1, hw1, e_v4b, e_v4d, e_v5a, e_v5b, c5, e_v6c, c6, hR1, hE1]
       exact ih1 (true, v5.gone, v5.list) h
      ·have h := iteF h c6
       have c6 := eq_false_of_ne_true c6
       simp only [go_sem, hx1, hi1, hw1, e_v4b, e_v4d, e_v5a, e_v5b, c5, e_v6c, c6, hR1, hE1]
       exact ih1 (s1.1, s1.2.1, s1.2.2) h
     ·have h := iteF h c5
      have c5 := eq_false_of_ne_true c5
      simp only [go_sem, hx1, hi1, hw1, e_v4b, e_v4d, e_v5a, e_v5b, c5, hR1, hE1]
      exact ih1 (s1.1, s1.2.1, s1.2.2) h
   ·have h := iteF h c3
    have c3b : (v3.2 != 0) = true := bneT c3
    simp only [go_sem, e_v1c, c1, e_v2c, c2, e_v3c, c3b]
    injection h with h; subst h
    exact Sat.ok hQ
  ·have h := iteF h c2
   have c2 := eq_false_of_ne_true c2
   simp only [go_sem, e_v1c, c1, e_v2c, c2]
   injection h with h; subst h
   exact Sat.ok hQ
 ·have h := iteF h c1
  have c1 := eq_false_of_ne_true c1
  simp only [go_sem, e_v1c, c1]
  injection h with h; subst h
  exact Sat.ok hQ
end Go.AM.S22

namespace Go.AM.S22
open Go Go.Proofs Go.AM
set_option linter.unusedVariables false
set_option maxRecDepth 100000
def stepF (row : List ref22_cut) (d : ref22_cut) (x : Int) : ref22_cut :=
 if ((row[x.toNat]?).getD zh).some = true then (if cutB ((row[x.toNat]?).getD zh) d = true then (row[x.toNat]?).getD zh else d) else d
theorem stepF_HC {m : Nat} {t : Tree} {row : List ref22_cut} (h : HR m t row) {d : ref22_cut} (hd : HC t d) (x : Int) : HC t (stepF row d x) := by
 unfold stepF
 split
 ·split
  ·exact h.get _
  ·exact hd
 ·exact hd
theorem fbest_prog {m : Nat} {t : Tree} {row : List ref22_cut} (h : HR m t row) (hs : tsT t ≤ 80) {W : Option (List repair_holes)} (hW : W = some (row.map (toH t))) {R : Type} : ∀ (l : List Int) (i : Nat) (d : ref22_cut) (k : Bool × Int × List (List Int) → Option R), (∀ x ∈ l, 0 ≤ x ∧ x < (m : Int)) →
 rangeC (fun i1 x1 (s1 : Bool × Int × (List (List Int))) n1 =>
  W.bind fun v4 =>
  (idx v4 x1).bind fun v5 =>
  if v5.ok = true then
   (repair_fewer (repair_holes.mk true v5.gone v5.list) (repair_holes.mk s1.1 s1.2.1 s1.2.2)).bind fun v6 =>
   if v6 = true then
    n1 (true, v5.gone, v5.list)
   else
    n1 (s1.1, s1.2.1, s1.2.2)
  else
   n1 (s1.1, s1.2.1, s1.2.2)) l i (d.some, d.nodes, d.l) k = k ((l.foldl (stepF row) d).some, (l.foldl (stepF row) d).nodes, (l.foldl (stepF row) d).l)
 | [], i, d, k, _ => by rw [rangeC]; rfl
 | x :: l, i, d, k, hx => by
  have hxx := hx x (by simp)
  have hc := h.get x.toNat
  have ih := fbest_prog h hs hW l (i + 1) (stepF row d x) k (fun y hy => hx y (List.mem_cons_of_mem _ hy))
  have hidx : idx (row.map (toH t)) x = some (toH t ((row[x.toNat]?).getD zh)) := by
   unfold idx
   rw [if_pos hxx.1, toH_get _ _ _ (by rw [h.1]; omega)]
  rw [rangeC, hW, List.foldl_cons]
  rw [hW] at ih
  rw [← ih]
  simp only [Option.bind_some]
  rw [hidx]
  simp only [Option.bind_some]
  unfold stepF
  by_cases c1 : ((row[x.toNat]?).getD zh).some = true
  ·have e1 : toH t ((row[x.toNat]?).getD zh) = ⟨true, ((row[x.toNat]?).getD zh).nodes, ((row[x.toNat]?).getD zh).l⟩ := if_pos c1
   rw [e1]
   simp only [if_true]
   rw [if_pos c1, fewer_eq _ _ (sml_of hc hs) true]
   simp only [Option.bind_some]
   by_cases c2 : cutB ((row[x.toNat]?).getD zh) d = true
   ·rw [if_pos c2, if_pos c2, c1]
   ·rw [if_neg c2, if_neg c2]
  ·have e1 : toH t ((row[x.toNat]?).getD zh) = ⟨false, tsT t, [[]]⟩ := if_neg c1
   rw [e1, if_neg c1]
   simp only [Bool.false_eq_true, if_false]
def bestH (a : Automaton) (zs : List Bool) (t : Tree) : ref22_cut := a.Final.foldl (stepF (cuT a zs t)) zh
def holT (a : Automaton) (zs : List Bool) (t : Tree) : List (List Int) × Int := if (bestH a zs t).some = true then ((bestH a zs t).l, 0) else ([], 5)
theorem fit_of {r : List Int} {a : Automaton} (hv : aV r a = true) : Fit r a := by
 unfold aV at hv
 simp only [Bool.and_eq_true, decide_eq_true_eq, List.all_eq_true] at hv
 obtain ⟨v1, v2, v5, v6⟩ := hv
 intro x hx
 have := v6 x hx
 unfold rOk at this
 rw [Bool.and_eq_true, decide_eq_true_eq] at this
 exact this.1.2.2
theorem sh_of {r : List Int} {t : Tree} (h : tvld r t = true) : shT r t = true := by
 unfold tvld at h
 simp only [Bool.and_eq_true] at h
 exact h.2.2
theorem hprog_top {n : Nat} {r : List Int} {a : Automaton} {t : Tree} (w : AW a) (hd : tdT t + 2 < n) (hw : twT t = true) (hf : fewB r a t = true) (hv : aV r a = true) (ht : tvld r t = true) {E : List Int} (hE : empty_sizes a = some E) (hEl : E.length = a.States.toNat) : repair_Holes n ⟨r⟩ a t = some (holT a (posV E) t) := by
 have ha := ok_of hv hf
 have hs : tsT t ≤ 80 := by
  unfold fewB at hf
  simp only [Bool.and_eq_true, decide_eq_true_eq] at hf
  omega
 have hfl := ha.fin
 have hzp : (posV E).length = a.States.toNat := by unfold posV; rw [List.length_map, hEl]
 unfold repair_Holes empty_Sizes holT
 rw [auto_eq r a w, hv, Option.bind_some, if_pos rfl, tvalid_eq r (by omega) hw, ht, Option.bind_some, if_pos rfl, Option.bind_some, if_pos rfl, hE, Option.bind_some, Option.bind_some]
 obtain ⟨q, m', e1, e2, e3⟩ := Hol.walk_eq ha (fit_of hv) hEl (n := n) n t none 0 (by omega) (by omega) hs (sh_of ht) trivial (by simp [Hol.pl]; omega)
 rcases q with _ | ⟨g, o, l⟩
 ·simp [Hol.pl] at e3
 simp only [Hol.pl, List.nil_append] at e3
 simp only [Hol.pk] at e2
 have hlen := congrArg List.length e3
 simp only [List.length_take, List.length_cons, List.length_nil] at hlen
 have h0 : idxM l o 0 = some ((cuT a (posV E) t).map (toH t)) := by
  unfold idxM
  rw [if_pos (by omega)]
  have : (o.take l)[0]? = some (pT a (posV E) t) := by rw [e3]; rfl
  rw [List.getElem?_take, if_pos (by omega)] at this
  exact this
 rw [if_pos rfl, e1, Option.bind_some, Option.bind_some]
 rw [rangeL, if_pos (by omega)]
 have hb := fbest_prog (cuT_HR a hzp t) hs (W := idxM l o 0) h0 a.Final 0 zh (fun s1 => if s1.1 = true then some (s1.2.2, (0 : Int)) else some (([] : List (List Int)), 5)) (fun x hx => by have := ha.fins x hx; omega)
 refine hb.trans ?_
 show (if (bestH a (posV E) t).some = true then some ((bestH a (posV E) t).l, (0 : Int)) else some (([] : List (List Int)), 5)) = _
 split <;> rfl
end Go.AM.S22

namespace Go.AM.S22
open Go Go.Proofs Go.AM
set_option linter.unusedVariables false
set_option maxRecDepth 100000
set_option maxHeartbeats 4000000
def Zero (c : ref22_cut) : Prop := c.some = true ∧ c.nodes = 0
def ZC (c : ref22_cut) : Prop := c.some = true → (c.l = [] ↔ c.nodes = 0)
def ZL : List (List ref22_cut) → List Int → Prop
 | k :: ks, x :: xs => Zero ((k[x.toNat]?).getD zh) ∧ ZL ks xs
 | _, _ => True
def ZR (row : List ref22_cut) : Prop := ∀ c ∈ row, ZC c
theorem ZC.zh : ZC zh := fun h => by cases h
theorem ZR.get {row : List ref22_cut} (h : ZR row) (i : Nat) : ZC ((row[i]?).getD S22.zh) := by
 cases e : row[i]? with
 | none => exact ZC.zh
 | some c => exact h c (List.mem_of_getElem? e)
theorem hf_zero {m : Nat} : ∀ (ks : List (List ref22_cut)) (kl : List Tree) (xs : List Int) (i : Nat) (s : Bool × Int × List (List Int)), HK m ks kl → 0 ≤ s.2.1 → (((hf i ks xs s).1 = true ∧ (hf i ks xs s).2.1 = 0) ↔ (s.1 = true ∧ s.2.1 = 0 ∧ ZL ks xs))
 | [], kl, xs, i, s, h, h0 => by
  have : hf i [] xs s = s := by rw [hf]; exact fun _ _ _ _ h => by cases h
  rw [this]; simp [ZL]
 | _ :: _, [], _, _, _, h, _ => h.elim
 | k :: ks, t :: kl, [], i, s, h, h0 => by
  have : hf i (k :: ks) [] s = s := by rw [hf]; exact fun _ _ _ _ _ h => by cases h
  rw [this]; simp [ZL]
 | k :: ks, t :: kl, x :: xs, i, s, h, h0 => by
  have c0 := (h.1.get x.toNat).n0
  rw [hf, hf_zero ks kl xs (i + 1) _ h.2 (by show 0 ≤ s.2.1 + _; omega), ZL, Zero]
  simp only [Bool.and_eq_true]
  constructor
  ·rintro ⟨⟨a1, a2⟩, a3, a4⟩; exact ⟨a1, by omega, ⟨a2, by omega⟩, a4⟩
  ·rintro ⟨a1, a2, ⟨a3, a4⟩, a5⟩; exact ⟨⟨a1, a3⟩, by omega, a5⟩
theorem hf_l {m : Nat} : ∀ (ks : List (List ref22_cut)) (kl : List Tree) (xs : List Int) (i : Nat) (s : Bool × Int × List (List Int)), HK m ks kl → (∀ k ∈ ks, ZR k) → 0 ≤ s.2.1 → (s.2.2 = [] ↔ s.2.1 = 0) → (hf i ks xs s).1 = true → ((hf i ks xs s).2.2 = [] ↔ (hf i ks xs s).2.1 = 0)
 | [], kl, xs, i, s, h, _, h0, h1, _ => by
  have : hf i [] xs s = s := by rw [hf]; exact fun _ _ _ _ h => by cases h
  rw [this]; exact h1
 | _ :: _, [], _, _, _, h, _, _, _, _ => h.elim
 | k :: ks, t :: kl, [], i, s, h, _, h0, h1, _ => by
  have : hf i (k :: ks) [] s = s := by rw [hf]; exact fun _ _ _ _ _ h => by cases h
  rw [this]; exact h1
 | k :: ks, t :: kl, x :: xs, i, s, h, hz, h0, h1, ht => by
  have c0 := (h.1.get x.toNat).n0
  have cz := (hz k (by simp)).get x.toNat
  rw [hf] at ht ⊢
  have hs : ((k[x.toNat]?).getD zh).some = true := by
   cases e : ((k[x.toNat]?).getD zh).some with
   | true => rfl
   | false =>
    rw [hf_false ks xs _ _ (by rw [e, Bool.and_false])] at ht
    cases ht
  refine hf_l ks kl xs (i + 1) _ h.2 (fun q hq => hz q (List.mem_cons_of_mem _ hq)) (by show 0 ≤ s.2.1 + _; omega) ?_ ht
  show s.2.2 ++ addP i _ = [] ↔ s.2.1 + _ = 0
  have hl : addP i ((k[x.toNat]?).getD zh).l = [] ↔ ((k[x.toNat]?).getD zh).l = [] := by unfold addP; exact List.map_eq_nil_iff
  rw [List.append_eq_nil_iff, hl, cz hs, h1]
  omega
theorem step_ZR {m : Nat} {t : Tree} {ks : List (List ref22_cut)} (hk : HK m ks t.Kids) (hz : ∀ k ∈ ks, ZR k) {row : List ref22_cut} (h : ZR row) (x : Rule) : ZR (stepH ks t.Sym row x) := by
 unfold stepH
 split
 ·split
  ·rename_i hb
   split
   ·intro c hc
    rcases List.mem_or_eq_of_mem_set hc with hc | rfl
    ·exact h c hc
    ·intro _
     exact hf_l ks t.Kids x.From 0 (true, 0, []) hk hz (Int.le_refl _) (by simp) hb
   ·exact h
  ·exact h
 ·exact h
theorem fold_ZR {m : Nat} {t : Tree} {ks : List (List ref22_cut)} (hk : HK m ks t.Kids) (hz : ∀ k ∈ ks, ZR k) : ∀ (l : List Rule) (row : List ref22_cut), ZR row → ZR (l.foldl (stepH ks t.Sym) row)
 | [], _, h => h
 | x :: l, row, h => fold_ZR hk hz l _ (step_ZR hk hz h x)
theorem ini_ZR (zs : List Bool) (t : Tree) : ZR (iniH zs (tsT t)) := by
 intro c hc
 obtain ⟨b, _, rfl⟩ := List.mem_map.1 hc
 have := tsT_eq t
 split
 ·intro _
  simp only []
  constructor
  ·intro h; cases h
  ·intro h; omega
 ·exact ZC.zh
mutual
theorem cuT_ZR {m : Nat} (a : Automaton) {zs : List Bool} (hz : zs.length = m) : ∀ t : Tree, ZR (cuT a zs t)
 | .mk s k => by rw [cuT, rowH]; exact fold_ZR (t := .mk s k) (cuL_HK a hz k) (cuL_ZR a hz k) _ _ (ini_ZR zs (.mk s k))
theorem cuL_ZR {m : Nat} (a : Automaton) {zs : List Bool} (hz : zs.length = m) : ∀ l : List Tree, ∀ k ∈ cuL a zs l, ZR k
 | [], k, h => by rw [cuL] at h; cases h
 | x :: r, k, h => by
  rw [cuL] at h
  rcases List.mem_cons.1 h with rfl | h
  ·exact cuT_ZR a hz x
  ·exact cuL_ZR a hz r k h
end
theorem fold_zero {m : Nat} {t : Tree} {ks : List (List ref22_cut)} (hk : HK m ks t.Kids) (i : Nat) : ∀ (l : List Rule) (row : List ref22_cut), HR m t row → (∀ x ∈ l, 0 ≤ x.To ∧ x.To < (m : Int)) →
 (Zero (((l.foldl (stepH ks t.Sym) row)[i]?).getD zh) ↔ (Zero ((row[i]?).getD zh) ∨ ∃ x ∈ l, x.Sym = t.Sym ∧ x.To.toNat = i ∧ ZL ks x.From))
 | [], row, _, _ => by simp
 | x :: l, row, h, hto => by
  have hx := hto x (by simp)
  rw [List.foldl_cons, fold_zero hk i l _ (step_HR hk h x) fun y hy => hto y (List.mem_cons_of_mem _ hy)]
  have key : Zero (((stepH ks t.Sym row x)[i]?).getD zh) ↔ (Zero ((row[i]?).getD zh) ∨ (x.Sym = t.Sym ∧ x.To.toNat = i ∧ ZL ks x.From)) := by
   have hz := hf_zero ks t.Kids x.From 0 (true, 0, []) hk (Int.le_refl _)
   have hb : 0 ≤ (hf 0 ks x.From (true, 0, [])).2.1 := (hf_bd ks t.Kids x.From 0 (true, 0, []) hk).1
   simp only [true_and] at hz
   unfold stepH
   by_cases c1 : x.Sym = t.Sym
   ·rw [if_pos c1]
    by_cases c2 : (hf 0 ks x.From (true, 0, [])).1 = true
    ·rw [if_pos c2]
     have hz' : (hf 0 ks x.From (true, 0, [])).2.1 = 0 ↔ ZL ks x.From := by
      constructor
      ·intro h; exact hz.1 ⟨c2, h⟩
      ·intro h; exact (hz.2 h).2
     have hold := (h.get x.To.toNat).n0
     by_cases c4 : x.To.toNat = i
     ·subst c4
      by_cases c3 : cutB (mkH (hf 0 ks x.From (true, 0, []))) ((row[x.To.toNat]?).getD zh) = true
      ·rw [if_pos c3, List.getElem?_set_self (by rw [h.1]; omega)]
       have hn : Zero ((some (mkH (hf 0 ks x.From (true, 0, [])))).getD zh) ↔ ZL ks x.From := by
        rw [← hz']
        show (true = true ∧ _) ↔ _
        simp only [true_and]; rfl
       rw [hn]
       constructor
       ·intro h; exact .inr ⟨c1, rfl, h⟩
       ·rintro (⟨o1, o2⟩ | ⟨_, _, h⟩)
        ·unfold cutB at c3
         rw [if_pos o1] at c3
         rw [← hz']
         by_cases e : (mkH (hf 0 ks x.From (true, 0, []))).nodes = ((row[x.To.toNat]?).getD zh).nodes
         ·exact e.trans o2
         ·rw [if_neg e] at c3
          have c3 := of_decide_eq_true c3
          rw [o2] at c3
          have : (hf 0 ks x.From (true, 0, [])).2.1 < 0 := c3
          omega
        ·exact h
      ·rw [if_neg c3]
       constructor
       ·intro h; exact .inl h
       ·rintro (h | ⟨_, _, h⟩)
        ·exact h
        ·have h0 := hz'.2 h
         unfold cutB at c3
         by_cases e0 : ((row[x.To.toNat]?).getD zh).some = true
         ·rw [if_pos e0] at c3
          refine ⟨e0, ?_⟩
          by_cases e : (mkH (hf 0 ks x.From (true, 0, []))).nodes = ((row[x.To.toNat]?).getD zh).nodes
          ·exact e.symm.trans h0
          ·rw [if_neg e] at c3
           have e2 : ¬ (hf 0 ks x.From (true, 0, [])).2.1 < ((row[x.To.toNat]?).getD zh).nodes := fun hh => c3 (decide_eq_true hh)
           omega
         ·rw [if_neg e0] at c3
          exact absurd rfl c3
     ·have hne : (if cutB (mkH (hf 0 ks x.From (true, 0, []))) ((row[x.To.toNat]?).getD zh) = true then row.set x.To.toNat (mkH (hf 0 ks x.From (true, 0, []))) else row)[i]? = row[i]? := by
       split
       ·rw [List.getElem?_set_ne c4]
       ·rfl
      rw [hne]
      constructor
      ·exact .inl
      ·rintro (h | ⟨_, h, _⟩)
       ·exact h
       ·exact absurd h c4
    ·rw [if_neg c2]
     constructor
     ·exact .inl
     ·rintro (h | ⟨_, _, h⟩)
      ·exact h
      ·exact absurd (hz.2 h).1 c2
   ·rw [if_neg c1]
    constructor
    ·exact .inl
    ·rintro (h | ⟨h, _⟩)
     ·exact h
     ·exact absurd h c1
  rw [key]
  constructor
  ·rintro ((h | h) | ⟨y, hy, h⟩)
   ·exact .inl h
   ·exact .inr ⟨x, by simp, h⟩
   ·exact .inr ⟨y, List.mem_cons_of_mem _ hy, h⟩
  ·rintro (h | ⟨y, hy, h⟩)
   ·exact .inl (.inl h)
   ·rcases List.mem_cons.1 hy with rfl | hy
    ·exact .inl (.inr h)
    ·exact .inr ⟨y, hy, h⟩
theorem ini_zero (zs : List Bool) (t : Tree) (i : Nat) : ¬ Zero (((iniH zs (tsT t))[i]?).getD zh) := by
 intro ⟨h1, h2⟩
 have := tsT_eq t
 unfold iniH at h1 h2
 rw [List.getElem?_map] at h1 h2
 cases e : zs[i]? with
 | none => rw [e] at h1; cases h1
 | some b =>
  rw [e] at h1 h2
  cases b with
  | true =>
   have h2 : (tsT t : Int) = 0 := h2
   omega
  | false => cases h1
section
variable {a : Automaton} {zs : List Bool}
mutual
theorem zero_iff (ha : OKa a) (hz : zs.length = a.States.toNat) : ∀ (t : Tree) (s : Int), 0 ≤ s → (Zero (((cuT a zs t)[s.toNat]?).getD zh) ↔ A3.stT a t s = true)
 | .mk b ks, s, h0 => by
  have hst := ha.st
  have hHR : HR a.States.toNat (.mk b ks) (iniH zs (tsT (.mk b ks))) := iniH_HR hz _
  rw [cuT, rowH, A3.stT, List.any_eq_true]
  refine (fold_zero (t := .mk b ks) (cuL_HK a hz ks) s.toNat a.Rules _ hHR fun x hx => by have := ha.to x hx; omega).trans ?_
  constructor
  ·rintro (h | ⟨x, hx, e1, e2, e3⟩)
   ·exact absurd h (ini_zero _ _ _)
   ·have := ha.to x hx
    refine ⟨x, hx, ?_⟩
    rw [Bool.and_eq_true]
    exact ⟨decide_eq_true ⟨e1, by omega⟩, (zero_iffL ha hz ks x.From fun y hy => (ha.from' x hx y hy).1).1 e3⟩
  ·rintro ⟨x, hx, h⟩
   rw [Bool.and_eq_true] at h
   obtain ⟨e1, e2⟩ := of_decide_eq_true h.1
   exact .inr ⟨x, hx, e1, by rw [e2], (zero_iffL ha hz ks x.From fun y hy => (ha.from' x hx y hy).1).2 h.2⟩
theorem zero_iffL (ha : OKa a) (hz : zs.length = a.States.toNat) : ∀ (ks : List Tree) (f : List Int), (∀ y ∈ f, 0 ≤ y) → (ZL (cuL a zs ks) f ↔ A3.stL a ks f = true)
 | [], f, _ => by
  rw [cuL, A3.stL]
  cases f <;> simp [ZL]
 | k :: ks, [], _ => by rw [cuL, A3.stL]; simp [ZL]
 | k :: ks, y :: f, hf => by
  rw [cuL, ZL, A3.stL, Bool.and_eq_true, zero_iff ha hz k y (hf y (by simp)), zero_iffL ha hz ks f fun z hz => hf z (List.mem_cons_of_mem _ hz)]
end
theorem best_zero (ha : OKa a) {t : Tree} {row : List ref22_cut} (h : HR a.States.toNat t row) (hZ : ZR row) : ∀ (l : List Int) (d : ref22_cut), HC t d → ZC d → (∀ s ∈ l, 0 ≤ s) →
 ZC (l.foldl (stepF row) d) ∧ (Zero (l.foldl (stepF row) d) ↔ (Zero d ∨ ∃ s ∈ l, Zero ((row[s.toNat]?).getD zh)))
 | [], d, _, hz, _ => ⟨hz, by simp⟩
 | x :: l, d, hd, hz, hl => by
  have hc := h.get x.toNat
  have hzc := hZ.get x.toNat
  have hz' : ZC (stepF row d x) := by
   unfold stepF
   split
   ·split
    ·exact hzc
    ·exact hz
   ·exact hz
  obtain ⟨i1, i2⟩ := best_zero ha h hZ l (stepF row d x) (stepF_HC h hd x) hz' fun s hs => hl s (List.mem_cons_of_mem _ hs)
  refine ⟨i1, ?_⟩
  have key : Zero (stepF row d x) ↔ (Zero d ∨ Zero ((row[x.toNat]?).getD zh)) := by
   unfold stepF
   by_cases c1 : ((row[x.toNat]?).getD zh).some = true
   ·rw [if_pos c1]
    by_cases c2 : cutB ((row[x.toNat]?).getD zh) d = true
    ·rw [if_pos c2]
     constructor
     ·exact .inr
     ·rintro (⟨o1, o2⟩ | h)
      ·unfold cutB at c2
       rw [if_pos o1] at c2
       refine ⟨c1, ?_⟩
       by_cases e : ((row[x.toNat]?).getD zh).nodes = d.nodes
       ·exact e.trans o2
       ·rw [if_neg e] at c2
        have := of_decide_eq_true c2
        have := hc.n0
        omega
      ·exact h
    ·rw [if_neg c2]
     constructor
     ·exact .inl
     ·rintro (h | ⟨_, h2⟩)
      ·exact h
      ·unfold cutB at c2
       by_cases e0 : d.some = true
       ·rw [if_pos e0] at c2
        refine ⟨e0, ?_⟩
        have := hd.n0
        by_cases e : ((row[x.toNat]?).getD zh).nodes = d.nodes
        ·exact e.symm.trans h2
        ·rw [if_neg e] at c2
         have : ¬ ((row[x.toNat]?).getD zh).nodes < d.nodes := fun hh => c2 (decide_eq_true hh)
         omega
       ·rw [if_neg e0] at c2
        exact absurd rfl c2
   ·rw [if_neg c1]
    constructor
    ·exact .inl
    ·rintro (h | ⟨h, _⟩)
     ·exact h
     ·exact absurd h c1
  rw [List.foldl_cons, i2, key]
  constructor
  ·rintro ((h | h) | ⟨y, hy, h⟩)
   ·exact .inl h
   ·exact .inr ⟨x, by simp, h⟩
   ·exact .inr ⟨y, List.mem_cons_of_mem _ hy, h⟩
  ·rintro (h | ⟨y, hy, h⟩)
   ·exact .inl (.inl h)
   ·rcases List.mem_cons.1 hy with rfl | hy
    ·exact .inl (.inr h)
    ·exact .inr ⟨y, hy, h⟩
theorem holes_zero (ha : OKa a) (hz : zs.length = a.States.toNat) (t : Tree) (hs : (bestH a zs t).some = true) : (bestH a zs t).l = [] ↔ ∃ s ∈ a.Final, A3.stT a t s = true := by
 obtain ⟨h1, h2⟩ := best_zero ha (cuT_HR a hz t) (cuT_ZR a hz t) a.Final zh (HC.zh t) ZC.zh fun s hs => (ha.fins s hs).1
 have e : bestH a zs t = a.Final.foldl (stepF (cuT a zs t)) zh := rfl
 rw [e] at hs ⊢
 rw [h1 hs]
 constructor
 ·intro h
  rcases h2.1 ⟨hs, h⟩ with h | ⟨s, hF, h⟩
  ·cases h.1
  ·exact ⟨s, hF, (zero_iff ha hz t s (ha.fins s hF).1).1 h⟩
 ·rintro ⟨s, hF, h⟩
  exact (h2.2 (.inr ⟨s, hF, (zero_iff ha hz t s (ha.fins s hF).1).2 h⟩)).2
end
end Go.AM.S22

namespace Go.AM.S22
open Go Go.Proofs Go.AM
set_option linter.unusedVariables false
set_option maxRecDepth 100000
set_option maxHeartbeats 4000000
namespace Tab
open Go Go.Proofs Go.AM Go.AM.S22
theorem awake_eq (m : Nat) : law22_awake m = some true := rfl
theorem tv_sh {r : List Int} {t : Tree} (h : tvld r t = true) : shT r t = true := by
 unfold tvld at h
 simp only [Bool.and_eq_true] at h
 exact h.2.2
theorem ask_iff {r : List Int} {a : Automaton} {t : Tree} : A3.ask r a t = 0 ↔ aV r a = true ∧ tvld r t = true := by
 unfold A3.ask
 rw [← Bool.and_eq_true]
 split
 ·simp [*]
 ·simp [*]
theorem cost_le {r : List Int} {a : Automaton} {t u : Tree} {R M I : Int} (h3 : A3.OKa r a) (ha : OKa a) (w : WOk R M I) {v : List Int} (hv : ZV a.States.toNat v) (hL : Sz.Low a.Rules v) {q : Int × Int} (hq : Best a v (cosT a v R M I t) q)
 (hu : shT r u = true) (hs : tsT u ≤ 80) {s : Int} (hsF : s ∈ a.Final) (hst : A3.stT a u s = true) : 0 ≤ q.1 ∧ q.2 ≤ dT R M I t u := by
 have hd := A3.der_of h3 u s hu hst
 have hg := (hL u s hd).1
 rw [gv_gz] at hg
 have hz := hv.gz s
 rcases hq with ⟨_, h⟩ | ⟨_, h2, _, _, h5⟩
 ·exact absurd (by omega) (h s hsF)
 ·exact ⟨h2, Int.le_trans (h5 s hsF (by omega)) (low_cost ha hv w hL t u s hd hs)⟩
end Tab
theorem d43 : (T.at 43).d = .st [(0, 3), (1, 3), (2, 3)] := rfl
theorem sz43 : (T.at 43).size = 3 := rfl
theorem wt43 {n : Nat} {cs : List PV} (h : wt T n 43 cs) : ∃ w : ref22_Weights, cs = [iv w.Relabel, iv w.Remove, iv w.Insert] := by
 obtain ⟨m, rfl, h1, h2⟩ := wt_st d43 h
 rw [sz43] at h1
 match cs, h1 with
 | [c0, c1, c2], _ =>
  have f0 := h2 (0, 3) (by simp)
  have f1 := h2 (1, 3) (by simp)
  have f2 := h2 (2, 3) (by simp)
  simp only [sz3, List.drop_zero, List.drop_succ_cons, List.take_succ_cons, List.take_zero] at f0 f1 f2
  obtain ⟨i, e0, _⟩ := wt_int d3 f0
  obtain ⟨j, e1, _⟩ := wt_int d3 f1
  obtain ⟨k, e2, _⟩ := wt_int d3 f2
  injection e0 with e0; subst e0
  injection e1 with e1; subst e1
  injection e2 with e2; subst e2
  exact ⟨⟨i, j, k⟩, rfl⟩
end Go.AM.S22

namespace Go.AM.S22
open Go Go.Proofs Go.AM
def sndN : List Unit → Code → Code
 | [], c => c
 | _ :: k, .seq _ b => sndN k b
 | _ :: _, c => c
def replN : List Unit → Code → Code → Code
 | [], J, _ => J
 | _ :: k, J, .seq a b => .seq a (replN k J b)
 | _ :: _, _, c => c
theorem replN_sndN : ∀ (k : List Unit) (c : Code), replN k (sndN k c) c = c
 | [], _ => rfl
 | _ :: k, c => by
  cases c with
  | seq a b => rw [sndN, replN, replN_sndN k b]
  | _ => rfl
noncomputable def J6_7 : Code := sndN [(), (), (), (), (), (), ()] c6
noncomputable def J6_8 : Code := sndN [()] J6_7
theorem cj6 : c6 = replN [(), (), (), (), (), (), ()] J6_7 c6 := (replN_sndN _ _).symm
theorem cj6_7 : J6_7 = replN [()] J6_8 J6_7 := (replN_sndN _ _).symm
theorem Sat.joinE {P : Program} {T : Tab} {H : FuncId → FH} {f base blk : Nat} {c : Code} {K : Ex × S → Option (Out × List AObj)} {Q : Out × List AObj → Prop} {σ : List AObj} {R : Type} {B : Unit → Option R} {A : (Unit → Option R) → Option R} {r : R} {Pr : Env → Prop} {G : Prop}
 (h : jn B A = some r) (hB : ∀ E, Pr E → B () = some r → Sat (run P T H f base blk c ⟨E, σ, [], none, false⟩ K) Q)
 (hA : ∀ j : Unit → Option R, (∀ E, Pr E → j () = some r → Sat (run P T H f base blk c ⟨E, σ, [], none, false⟩ K) Q) → A j = some r → G) : G :=
 hA B hB h
end Go.AM.S22

namespace Go.AM.S22
open Go Go.Proofs Go.AM
set_option maxRecDepth 100000
set_option linter.unusedVariables false
set_option maxHeartbeats 4000000
def law22_RepairLaws (n : Nat) (a0 : Alphabet) (a1 : Automaton) (a2 : Tree) (a3 : Tree) (a4 : Tree) (a5 : ref22_Weights) : Option Bool :=
 (law22_few n a0 a1 [a2, a3, a4]).bind fun v1 =>
 if v1 = true then
  (auto_Accepts n a0 a1 a2).bind fun v2 =>
  (law22_given a5).bind fun v3 =>
  (repair_Cost n a0 a1 a2 v3).bind fun v4 =>
  (repair_Holes n a0 a1 a2).bind fun v5 =>
  if v2.2 = 0 then
   jn (fun (_ : Unit) =>
    jn (fun (_ : Unit) =>
     (repair_Distance n a0 a2 a3 v3).bind fun v6 =>
     (repair_Distance n a0 a3 a4 v3).bind fun v7 =>
     (repair_Distance n a0 a2 a4 v3).bind fun v8 =>
     (repair_Distance n a0 a3 a2 v3).bind fun v9 =>
     if v6.2 = 0 then
      if v7.2 = 0 then
       if v8.2 = 0 then
        if v9.2 = 0 then
         if v6.1 = v9.1 then
          if v8.1 ≤ (w64 (v6.1 + v7.1)) then
           (law22_awake n).bind fun v10 =>
           some v10
          else
           some false
         else
          some false
        else
         (law22_awake n).bind fun v11 =>
         some v11
       else
        (law22_awake n).bind fun v12 =>
        some v12
      else
       (law22_awake n).bind fun v13 =>
       some v13
     else
      (law22_awake n).bind fun v14 =>
      some v14) fun j2 =>
    if a5.Relabel < 0 then
     (law22_awake n).bind fun v15 =>
     some v15
    else
     if a5.Remove = a5.Insert then
      if (w64 (2 * a5.Remove)) < a5.Relabel then
       (law22_awake n).bind fun v16 =>
       some v16
      else
       j2 ()
     else
      (law22_awake n).bind fun v17 =>
      some v17) fun j1 =>
   if v4.2 = 0 then
    if a5.Relabel = 0 then
     if v5.2 = 0 then
      if v2.1 = ((v5.1.length : Int) == 0) then
       j1 ()
      else
       some false
     else
      j1 ()
    else
     if 0 < a5.Remove then
      if 0 < a5.Insert then
       if v2.1 = (v4.1 == 0) then
        if v5.2 = 0 then
         if v2.1 = ((v5.1.length : Int) == 0) then
          j1 ()
         else
          some false
        else
         j1 ()
       else
        some false
      else
       if v5.2 = 0 then
        if v2.1 = ((v5.1.length : Int) == 0) then
         j1 ()
        else
         some false
       else
        j1 ()
     else
      if v5.2 = 0 then
       if v2.1 = ((v5.1.length : Int) == 0) then
        j1 ()
       else
        some false
      else
       j1 ()
   else
    if v5.2 = 0 then
     if v2.1 = ((v5.1.length : Int) == 0) then
      j1 ()
     else
      some false
    else
     j1 ()
  else
   (law22_awake n).bind fun v18 =>
   some v18
 else
  (law22_awake n).bind fun v19 =>
  some v19
theorem spec6 (n : Nat) (a0 : Alphabet) (a1 : Automaton) (a2 : Tree) (a3 : Tree) (a4 : Tree) (a5 : ref22_Weights) (r : Bool) (h : law22_RepairLaws n a0 a1 a2 a3 a4 a5 = some r) :
 call Try.prog T H (.fn 6) [.p (.agg [.sl none 1 (List.map rowI a0.Ranks)]), .p (.agg [iv a1.States, .sl none 1 (List.map rowI a1.Final), .sl none 3 (List.map row_Rule a1.Rules)]), .p (.agg [iv a2.Sym, .sl none 2 (List.map row_Tree a2.Kids)]), .p (.agg [iv a3.Sym, .sl none 2 (List.map row_Tree a3.Kids)]), .p (.agg [iv a4.Sym, .sl none 2 (List.map row_Tree a4.Kids)]), .p (.agg [iv a5.Relabel, iv a5.Remove, iv a5.Insert])] [] = some (.ret (.p (bv r)), []) := by
 refine Sat.fn fun Q hQ => ?_
 unfold law22_RepairLaws at h
 rw [call6, cj6]
 conv => arg 1; arg 7; unfold S22.c6 Try.f6; simp only [Option.getD_some, replN]
 obtain ⟨v1, e_v1, h⟩ := ob h
 have e_v1c : call Try.prog T H (.fn 8) [.p (.agg [.sl none 1 (List.map rowI a0.Ranks)]), .p (.agg [iv a1.States, .sl none 1 (List.map rowI a1.Final), .sl none 3 (List.map row_Rule a1.Rules)]), .p (.sl none 2 [[iv a2.Sym, .sl none 2 (List.map row_Tree a2.Kids)], [iv a3.Sym, .sl none 2 (List.map row_Tree a3.Kids)], [iv a4.Sym, .sl none 2 (List.map row_Tree a4.Kids)]])] [] = some (.ret (.p (bv v1)), []) := by have q := spec8 n a0 a1 [a2, a3, a4] v1 e_v1; simp only [List.map_cons, List.map_nil, row_Tree_eq] at q ⊢; exact q
 by_cases c1 : v1 = true
 ·have h := iteT h c1
  obtain ⟨v2, e_v2, h⟩ := ob h
  have e_v2c := spec19 n a0 a1 a2 v2 e_v2
  obtain ⟨v3, e_v3, h⟩ := ob h
  have e_v3c := spec17 a5 v3 e_v3
  obtain ⟨v4, e_v4, h⟩ := ob h
  have e_v4c := spec20 n a0 a1 a2 v3 v4 e_v4
  obtain ⟨v5, e_v5, h⟩ := ob h
  have e_v5c := spec13 n a0 a1 a2 v5 e_v5
  by_cases c2 : v2.2 = 0
  ·have h := iteT h c2
   have c2b : (v2.2 != 0) = false := bneF c2
   refine Sat.joinE (P := Try.prog) (T := T) (H := H) (f := 6) (c := J6_7) (K := endK Try.prog T H 6 [.tmp 12] 0) (base := 0) (blk := 0) (Q := Q) (σ := [.cells [.p (.sl none 1 (List.map rowI a0.Ranks))], .cells [.p (iv a1.States), .p (.sl none 1 (List.map rowI a1.Final)), .p (.sl none 3 (List.map row_Rule a1.Rules))], .cells [.p (iv a2.Sym), .p (.sl none 2 (List.map row_Tree a2.Kids))], .cells [.p (iv a3.Sym), .p (.sl none 2 (List.map row_Tree a3.Kids))], .cells [.p (iv a4.Sym), .p (.sl none 2 (List.map row_Tree a4.Kids))], .cells [.p (iv a5.Relabel), .p (iv a5.Remove), .p (iv a5.Insert)]]) (Pr := fun E => get E 6 = .ptr 0 0 ∧ get E 7 = .ptr 1 0 ∧ get E 8 = .ptr 2 0 ∧ get E 9 = .ptr 3 0 ∧ get E 10 = .ptr 4 0 ∧ get E 11 = .ptr 5 0 ∧ get E 12 = .p (bv false)) h ?_ ?_
   ·intro E hPr h
    obtain ⟨hE6, hE7, hE8, hE9, hE10, hE11, hE12⟩ := hPr
    rw [cj6_7]
    conv => arg 1; arg 7; unfold J6_7 S22.c6 Try.f6; simp only [Option.getD_some, sndN, replN]
    refine Sat.joinE (P := Try.prog) (T := T) (H := H) (f := 6) (c := J6_8) (K := endK Try.prog T H 6 [.tmp 12] 0) (base := 0) (blk := 0) (Q := Q) (σ := [.cells [.p (.sl none 1 (List.map rowI a0.Ranks))], .cells [.p (iv a1.States), .p (.sl none 1 (List.map rowI a1.Final)), .p (.sl none 3 (List.map row_Rule a1.Rules))], .cells [.p (iv a2.Sym), .p (.sl none 2 (List.map row_Tree a2.Kids))], .cells [.p (iv a3.Sym), .p (.sl none 2 (List.map row_Tree a3.Kids))], .cells [.p (iv a4.Sym), .p (.sl none 2 (List.map row_Tree a4.Kids))], .cells [.p (iv a5.Relabel), .p (iv a5.Remove), .p (iv a5.Insert)]]) (Pr := fun E => get E 6 = .ptr 0 0 ∧ get E 7 = .ptr 1 0 ∧ get E 8 = .ptr 2 0 ∧ get E 9 = .ptr 3 0 ∧ get E 10 = .ptr 4 0 ∧ get E 11 = .ptr 5 0 ∧ get E 12 = .p (bv false)) h ?_ ?_
    ·intro E hPr h
     obtain ⟨hE6, hE7, hE8, hE9, hE10, hE11, hE12⟩ := hPr
     conv => arg 1; arg 7; unfold J6_8 J6_7 S22.c6 Try.f6; simp only [Option.getD_some, sndN, replN]
     obtain ⟨v6, e_v6, h⟩ := ob h
     have e_v6c := spec16 n a0 a2 a3 v3 v6 e_v6
     obtain ⟨v7, e_v7, h⟩ := ob h
     have e_v7c := spec16 n a0 a3 a4 v3 v7 e_v7
     obtain ⟨v8, e_v8, h⟩ := ob h
     have e_v8c := spec16 n a0 a2 a4 v3 v8 e_v8
     obtain ⟨v9, e_v9, h⟩ := ob h
     have e_v9c := spec16 n a0 a3 a2 v3 v9 e_v9
     by_cases c3 : v6.2 = 0
     ·have h := iteT h c3
      have c3b : (v6.2 != 0) = false := bneF c3
      by_cases c4 : v7.2 = 0
      ·have h := iteT h c4
       have c4b : (v7.2 != 0) = false := bneF c4
       by_cases c5 : v8.2 = 0
       ·have h := iteT h c5
        have c5b : (v8.2 != 0) = false := bneF c5
        by_cases c6 : v9.2 = 0
        ·have h := iteT h c6
         have c6b : (v9.2 != 0) = false := bneF c6
         by_cases c7 : v6.1 = v9.1
         ·have h := iteT h c7
          have c7b : (v6.1 == v9.1) = true := beqT c7
          by_cases c8 : v8.1 ≤ (w64 (v6.1 + v7.1))
          ·have h := iteT h c8
           obtain ⟨v10, e_v10, h⟩ := ob h
           have e_v10c := spec9 n v10 e_v10
           simp only [go_sem, hE6, hE7, hE8, hE9, hE10, hE11, hE12, e_v3c, e_v6c, e_v7c, e_v8c, e_v9c, c3b, c4b, c5b, c6b, c7b, c8, e_v10c]
           injection h with h; subst h
           exact Sat.ok hQ
          ·have h := iteF h c8
           simp only [go_sem, hE6, hE7, hE8, hE9, hE10, hE11, hE12, e_v3c, e_v6c, e_v7c, e_v8c, e_v9c, c3b, c4b, c5b, c6b, c7b, c8]
           injection h with h; subst h
           exact Sat.ok hQ
         ·have h := iteF h c7
          have c7b : (v6.1 == v9.1) = false := beqF c7
          simp only [go_sem, hE6, hE7, hE8, hE9, hE10, hE11, hE12, e_v3c, e_v6c, e_v7c, e_v8c, e_v9c, c3b, c4b, c5b, c6b, c7b]
          injection h with h; subst h
          exact Sat.ok hQ
        ·have h := iteF h c6
         have c6b : (v9.2 != 0) = true := bneT c6
         obtain ⟨v11, e_v11, h⟩ := ob h
         have e_v11c := spec9 n v11 e_v11
         simp only [go_sem, hE6, hE7, hE8, hE9, hE10, hE11, hE12, e_v3c, e_v6c, e_v7c, e_v8c, e_v9c, c3b, c4b, c5b, c6b, e_v11c]
         injection h with h; subst h
         exact Sat.ok hQ
       ·have h := iteF h c5
        have c5b : (v8.2 != 0) = true := bneT c5
        obtain ⟨v12, e_v12, h⟩ := ob h
        have e_v12c := spec9 n v12 e_v12
        simp only [go_sem, hE6, hE7, hE8, hE9, hE10, hE11, hE12, e_v3c, e_v6c, e_v7c, e_v8c, e_v9c, c3b, c4b, c5b, e_v12c]
        injection h with h; subst h
        exact Sat.ok hQ
      ·have h := iteF h c4
       have c4b : (v7.2 != 0) = true := bneT c4
       obtain ⟨v13, e_v13, h⟩ := ob h
       have e_v13c := spec9 n v13 e_v13
       simp only [go_sem, hE6, hE7, hE8, hE9, hE10, hE11, hE12, e_v3c, e_v6c, e_v7c, e_v8c, e_v9c, c3b, c4b, e_v13c]
       injection h with h; subst h
       exact Sat.ok hQ
     ·have h := iteF h c3
      have c3b : (v6.2 != 0) = true := bneT c3
      obtain ⟨v14, e_v14, h⟩ := ob h
      have e_v14c := spec9 n v14 e_v14
      simp only [go_sem, hE6, hE7, hE8, hE9, hE10, hE11, hE12, e_v3c, e_v6c, e_v7c, e_v8c, e_v9c, c3b, e_v14c]
      injection h with h; subst h
      exact Sat.ok hQ
    ·intro j2 hj2 h
     by_cases c9 : a5.Relabel < 0
     ·have h := iteT h c9
      obtain ⟨v15, e_v15, h⟩ := ob h
      have e_v15c := spec9 n v15 e_v15
      simp only [go_sem, hE6, hE7, hE8, hE9, hE10, hE11, hE12, c9, e_v15c]
      injection h with h; subst h
      exact Sat.ok hQ
     ·have h := iteF h c9
      by_cases c10 : a5.Remove = a5.Insert
      ·have h := iteT h c10
       have c10b : (a5.Remove != a5.Insert) = false := bneF c10
       by_cases c11 : (w64 (2 * a5.Remove)) < a5.Relabel
       ·have h := iteT h c11
        obtain ⟨v16, e_v16, h⟩ := ob h
        have e_v16c := spec9 n v16 e_v16
        simp only [go_sem, hE6, hE7, hE8, hE9, hE10, hE11, hE12, c9, c10b, c11, e_v16c]
        injection h with h; subst h
        exact Sat.ok hQ
       ·have h := iteF h c11
        simp only [go_sem, hE6, hE7, hE8, hE9, hE10, hE11, hE12, c9, c10b, c11]
        exact hj2 _ ⟨by first | rfl | (simp only [go_sem, hE6, hE7, hE8, hE9, hE10, hE11, hE12]; done) | (simp only [go_sem, hE6, hE7, hE8, hE9, hE10, hE11, hE12]; rfl), by first | rfl | (simp only [go_sem, hE6, hE7, hE8, hE9, hE10, hE11, hE12]; done) | (simp only [go_sem, hE6, hE7, hE8, hE9, hE10, hE11, hE12]; rfl), by first | rfl | (simp only [go_sem, hE6, hE7, hE8, hE9, hE10, hE11, hE12]; done) | (simp only [go_sem, hE6, hE7, hE8, hE9, hE10, hE11, hE12]; rfl), by first | rfl | (simp only [go_sem, hE6, hE7, hE8, hE9, hE10, hE11, hE12]; done) | (simp only [go_sem, hE6, hE7, hE8, hE9, hE10, hE11, hE12]; rfl), by first | rfl | (simp only [go_sem, hE6, hE7, hE8, hE9, hE10, hE11, hE12]; done) | (simp only [go_sem, hE6, hE7, hE8, hE9, hE10, hE11, hE12]; rfl), by first | rfl | (simp only [go_sem, hE6, hE7, hE8, hE9, hE10, hE11, hE12]; done) | (simp only [go_sem, hE6, hE7, hE8, hE9, hE10, hE11, hE12]; rfl), by first | rfl | (simp only [go_sem, hE6, hE7, hE8, hE9, hE10, hE11, hE12]; done) | (simp only [go_sem, hE6, hE7, hE8, hE9, hE10, hE11, hE12]; rfl)⟩ h
      ·have h := iteF h c10
       have c10b : (a5.Remove != a5.Insert) = true := bneT c10
       obtain ⟨v17, e_v17, h⟩ := ob h
       have e_v17c := spec9 n v17 e_v17
       simp only [go_sem, hE6, hE7, hE8, hE9, hE10, hE11, hE12, c9, c10b, e_v17c]
       injection h with h; subst h
       exact Sat.ok hQ
   ·intro j1 hj1 h
    by_cases c12 : v4.2 = 0
    ·have h := iteT h c12
     have c12b : (v4.2 == 0) = true := beqT c12
     by_cases c13 : a5.Relabel = 0
     ·have h := iteT h c13
      have c13b : (a5.Relabel != 0) = false := bneF c13
      by_cases c14 : v5.2 = 0
      ·have h := iteT h c14
       have c14b : (v5.2 == 0) = true := beqT c14
       by_cases c15 : v2.1 = ((v5.1.length : Int) == 0)
       ·have h := iteT h c15
        have c15b : (v2.1 != ((v5.1.length : Int) == 0)) = false := bneF c15
        simp only [go_sem, e_v1c, c1, e_v2c, e_v3c, e_v4c, e_v5c, c2b, c12b, c13b, c14b, c15b]
        exact hj1 _ ⟨by first | rfl | (simp only [go_sem]; done) | (simp only [go_sem]; rfl), by first | rfl | (simp only [go_sem]; done) | (simp only [go_sem]; rfl), by first | rfl | (simp only [go_sem]; done) | (simp only [go_sem]; rfl), by first | rfl | (simp only [go_sem]; done) | (simp only [go_sem]; rfl), by first | rfl | (simp only [go_sem]; done) | (simp only [go_sem]; rfl), by first | rfl | (simp only [go_sem]; done) | (simp only [go_sem]; rfl), by first | rfl | (simp only [go_sem]; done) | (simp only [go_sem]; rfl)⟩ h
       ·have h := iteF h c15
        have c15b : (v2.1 != ((v5.1.length : Int) == 0)) = true := bneT c15
        simp only [go_sem, e_v1c, c1, e_v2c, e_v3c, e_v4c, e_v5c, c2b, c12b, c13b, c14b, c15b]
        injection h with h; subst h
        exact Sat.ok hQ
      ·have h := iteF h c14
       have c14b : (v5.2 == 0) = false := beqF c14
       simp only [go_sem, e_v1c, c1, e_v2c, e_v3c, e_v4c, e_v5c, c2b, c12b, c13b, c14b]
       exact hj1 _ ⟨by first | rfl | (simp only [go_sem]; done) | (simp only [go_sem]; rfl), by first | rfl | (simp only [go_sem]; done) | (simp only [go_sem]; rfl), by first | rfl | (simp only [go_sem]; done) | (simp only [go_sem]; rfl), by first | rfl | (simp only [go_sem]; done) | (simp only [go_sem]; rfl), by first | rfl | (simp only [go_sem]; done) | (simp only [go_sem]; rfl), by first | rfl | (simp only [go_sem]; done) | (simp only [go_sem]; rfl), by first | rfl | (simp only [go_sem]; done) | (simp only [go_sem]; rfl)⟩ h
     ·have h := iteF h c13
      have c13b : (a5.Relabel != 0) = true := bneT c13
      by_cases c16 : 0 < a5.Remove
      ·have h := iteT h c16
       by_cases c17 : 0 < a5.Insert
       ·have h := iteT h c17
        by_cases c18 : v2.1 = (v4.1 == 0)
        ·have h := iteT h c18
         have c18b : (v2.1 != (v4.1 == 0)) = false := bneF c18
         by_cases c19 : v5.2 = 0
         ·have h := iteT h c19
          have c19b : (v5.2 == 0) = true := beqT c19
          by_cases c20 : v2.1 = ((v5.1.length : Int) == 0)
          ·have h := iteT h c20
           have c20b : (v2.1 != ((v5.1.length : Int) == 0)) = false := bneF c20
           simp only [go_sem, e_v1c, c1, e_v2c, e_v3c, e_v4c, e_v5c, c2b, c12b, c13b, c16, c17, c18b, c19b, c20b]
           exact hj1 _ ⟨by first | rfl | (simp only [go_sem]; done) | (simp only [go_sem]; rfl), by first | rfl | (simp only [go_sem]; done) | (simp only [go_sem]; rfl), by first | rfl | (simp only [go_sem]; done) | (simp only [go_sem]; rfl), by first | rfl | (simp only [go_sem]; done) | (simp only [go_sem]; rfl), by first | rfl | (simp only [go_sem]; done) | (simp only [go_sem]; rfl), by first | rfl | (simp only [go_sem]; done) | (simp only [go_sem]; rfl), by first | rfl | (simp only [go_sem]; done) | (simp only [go_sem]; rfl)⟩ h
          ·have h := iteF h c20
           have c20b : (v2.1 != ((v5.1.length : Int) == 0)) = true := bneT c20
           simp only [go_sem, e_v1c, c1, e_v2c, e_v3c, e_v4c, e_v5c, c2b, c12b, c13b, c16, c17, c18b, c19b, c20b]
           injection h with h; subst h
           exact Sat.ok hQ
         ·have h := iteF h c19
          have c19b : (v5.2 == 0) = false := beqF c19
          simp only [go_sem, e_v1c, c1, e_v2c, e_v3c, e_v4c, e_v5c, c2b, c12b, c13b, c16, c17, c18b, c19b]
          exact hj1 _ ⟨by first | rfl | (simp only [go_sem]; done) | (simp only [go_sem]; rfl), by first | rfl | (simp only [go_sem]; done) | (simp only [go_sem]; rfl), by first | rfl | (simp only [go_sem]; done) | (simp only [go_sem]; rfl), by first | rfl | (simp only [go_sem]; done) | (simp only [go_sem]; rfl), by first | rfl | (simp only [go_sem]; done) | (simp only [go_sem]; rfl), by first | rfl | (simp only [go_sem]; done) | (simp only [go_sem]; rfl), by first | rfl | (simp only [go_sem]; done) | (simp only [go_sem]; rfl)⟩ h
        ·have h := iteF h c18
         have c18b : (v2.1 != (v4.1 == 0)) = true := bneT c18
         simp only [go_sem, e_v1c, c1, e_v2c, e_v3c, e_v4c, e_v5c, c2b, c12b, c13b, c16, c17, c18b]
         injection h with h; subst h
         exact Sat.ok hQ
       ·have h := iteF h c17
        by_cases c21 : v5.2 = 0
        ·have h := iteT h c21
         have c21b : (v5.2 == 0) = true := beqT c21
         by_cases c22 : v2.1 = ((v5.1.length : Int) == 0)
         ·have h := iteT h c22
          have c22b : (v2.1 != ((v5.1.length : Int) == 0)) = false := bneF c22
          simp only [go_sem, e_v1c, c1, e_v2c, e_v3c, e_v4c, e_v5c, c2b, c12b, c13b, c16, c17, c21b, c22b]
          exact hj1 _ ⟨by first | rfl | (simp only [go_sem]; done) | (simp only [go_sem]; rfl), by first | rfl | (simp only [go_sem]; done) | (simp only [go_sem]; rfl), by first | rfl | (simp only [go_sem]; done) | (simp only [go_sem]; rfl), by first | rfl | (simp only [go_sem]; done) | (simp only [go_sem]; rfl), by first | rfl | (simp only [go_sem]; done) | (simp only [go_sem]; rfl), by first | rfl | (simp only [go_sem]; done) | (simp only [go_sem]; rfl), by first | rfl | (simp only [go_sem]; done) | (simp only [go_sem]; rfl)⟩ h
         ·have h := iteF h c22
          have c22b : (v2.1 != ((v5.1.length : Int) == 0)) = true := bneT c22
          simp only [go_sem, e_v1c, c1, e_v2c, e_v3c, e_v4c, e_v5c, c2b, c12b, c13b, c16, c17, c21b, c22b]
          injection h with h; subst h
          exact Sat.ok hQ
        ·have h := iteF h c21
         have c21b : (v5.2 == 0) = false := beqF c21
         simp only [go_sem, e_v1c, c1, e_v2c, e_v3c, e_v4c, e_v5c, c2b, c12b, c13b, c16, c17, c21b]
         exact hj1 _ ⟨by first | rfl | (simp only [go_sem]; done) | (simp only [go_sem]; rfl), by first | rfl | (simp only [go_sem]; done) | (simp only [go_sem]; rfl), by first | rfl | (simp only [go_sem]; done) | (simp only [go_sem]; rfl), by first | rfl | (simp only [go_sem]; done) | (simp only [go_sem]; rfl), by first | rfl | (simp only [go_sem]; done) | (simp only [go_sem]; rfl), by first | rfl | (simp only [go_sem]; done) | (simp only [go_sem]; rfl), by first | rfl | (simp only [go_sem]; done) | (simp only [go_sem]; rfl)⟩ h
      ·have h := iteF h c16
       by_cases c23 : v5.2 = 0
       ·have h := iteT h c23
        have c23b : (v5.2 == 0) = true := beqT c23
        by_cases c24 : v2.1 = ((v5.1.length : Int) == 0)
        ·have h := iteT h c24
         have c24b : (v2.1 != ((v5.1.length : Int) == 0)) = false := bneF c24
         simp only [go_sem, e_v1c, c1, e_v2c, e_v3c, e_v4c, e_v5c, c2b, c12b, c13b, c16, c23b, c24b]
         exact hj1 _ ⟨by first | rfl | (simp only [go_sem]; done) | (simp only [go_sem]; rfl), by first | rfl | (simp only [go_sem]; done) | (simp only [go_sem]; rfl), by first | rfl | (simp only [go_sem]; done) | (simp only [go_sem]; rfl), by first | rfl | (simp only [go_sem]; done) | (simp only [go_sem]; rfl), by first | rfl | (simp only [go_sem]; done) | (simp only [go_sem]; rfl), by first | rfl | (simp only [go_sem]; done) | (simp only [go_sem]; rfl), by first | rfl | (simp only [go_sem]; done) | (simp only [go_sem]; rfl)⟩ h
        ·have h := iteF h c24
         have c24b : (v2.1 != ((v5.1.length : Int) == 0)) = true := bneT c24
         simp only [go_sem, e_v1c, c1, e_v2c, e_v3c, e_v4c, e_v5c, c2b, c12b, c13b, c16, c23b, c24b]
         injection h with h; subst h
         exact Sat.ok hQ
       ·have h := iteF h c23
        have c23b : (v5.2 == 0) = false := beqF c23
        simp only [go_sem, e_v1c, c1, e_v2c, e_v3c, e_v4c, e_v5c, c2b, c12b, c13b, c16, c23b]
        exact hj1 _ ⟨by first | rfl | (simp only [go_sem]; done) | (simp only [go_sem]; rfl), by first | rfl | (simp only [go_sem]; done) | (simp only [go_sem]; rfl), by first | rfl | (simp only [go_sem]; done) | (simp only [go_sem]; rfl), by first | rfl | (simp only [go_sem]; done) | (simp only [go_sem]; rfl), by first | rfl | (simp only [go_sem]; done) | (simp only [go_sem]; rfl), by first | rfl | (simp only [go_sem]; done) | (simp only [go_sem]; rfl), by first | rfl | (simp only [go_sem]; done) | (simp only [go_sem]; rfl)⟩ h
    ·have h := iteF h c12
     have c12b : (v4.2 == 0) = false := beqF c12
     by_cases c25 : v5.2 = 0
     ·have h := iteT h c25
      have c25b : (v5.2 == 0) = true := beqT c25
      by_cases c26 : v2.1 = ((v5.1.length : Int) == 0)
      ·have h := iteT h c26
       have c26b : (v2.1 != ((v5.1.length : Int) == 0)) = false := bneF c26
       simp only [go_sem, e_v1c, c1, e_v2c, e_v3c, e_v4c, e_v5c, c2b, c12b, c25b, c26b]
       exact hj1 _ ⟨by first | rfl | (simp only [go_sem]; done) | (simp only [go_sem]; rfl), by first | rfl | (simp only [go_sem]; done) | (simp only [go_sem]; rfl), by first | rfl | (simp only [go_sem]; done) | (simp only [go_sem]; rfl), by first | rfl | (simp only [go_sem]; done) | (simp only [go_sem]; rfl), by first | rfl | (simp only [go_sem]; done) | (simp only [go_sem]; rfl), by first | rfl | (simp only [go_sem]; done) | (simp only [go_sem]; rfl), by first | rfl | (simp only [go_sem]; done) | (simp only [go_sem]; rfl)⟩ h
      ·have h := iteF h c26
       have c26b : (v2.1 != ((v5.1.length : Int) == 0)) = true := bneT c26
       simp only [go_sem, e_v1c, c1, e_v2c, e_v3c, e_v4c, e_v5c, c2b, c12b, c25b, c26b]
       injection h with h; subst h
       exact Sat.ok hQ
     ·have h := iteF h c25
      have c25b : (v5.2 == 0) = false := beqF c25
      simp only [go_sem, e_v1c, c1, e_v2c, e_v3c, e_v4c, e_v5c, c2b, c12b, c25b]
      exact hj1 _ ⟨by first | rfl | (simp only [go_sem]; done) | (simp only [go_sem]; rfl), by first | rfl | (simp only [go_sem]; done) | (simp only [go_sem]; rfl), by first | rfl | (simp only [go_sem]; done) | (simp only [go_sem]; rfl), by first | rfl | (simp only [go_sem]; done) | (simp only [go_sem]; rfl), by first | rfl | (simp only [go_sem]; done) | (simp only [go_sem]; rfl), by first | rfl | (simp only [go_sem]; done) | (simp only [go_sem]; rfl), by first | rfl | (simp only [go_sem]; done) | (simp only [go_sem]; rfl)⟩ h
  ·have h := iteF h c2
   have c2b : (v2.2 != 0) = true := bneT c2
   obtain ⟨v18, e_v18, h⟩ := ob h
   have e_v18c := spec9 n v18 e_v18
   simp only [go_sem, e_v1c, c1, e_v2c, e_v3c, e_v4c, e_v5c, c2b, e_v18c]
   injection h with h; subst h
   exact Sat.ok hQ
 ·have h := iteF h c1
  have c1 := eq_false_of_ne_true c1
  obtain ⟨v19, e_v19, h⟩ := ob h
  have e_v19c := spec9 n v19 e_v19
  simp only [go_sem, e_v1c, c1, e_v19c]
  injection h with h; subst h
  exact Sat.ok hQ
end Go.AM.S22

namespace Go.AM.S22
open Go Go.Proofs Go.AM
set_option linter.unusedVariables false
set_option maxRecDepth 100000
set_option maxHeartbeats 4000000
namespace Tab
open Go Go.Proofs Go.AM Go.AM.S22
theorem few3_eq {n : Nat} (r : List Int) (a : Automaton) (t u v : Tree) (w : AW a) (hd : tdT t < n) (hw : twT t = true) (hd' : tdT u < n) (hw' : twT u = true) (hd'' : tdT v < n) (hw'' : twT v = true) : law22_few n ⟨r⟩ a [t, u, v] = some (decide ((tsT t : Int) ≤ 80) && (decide ((tsT u : Int) ≤ 80) && fewB r a v)) := by
 have h := few2_eq r a u v w hd' hw' hd'' hw''
 unfold law22_few at h ⊢
 rw [rangeL, if_pos (by simp only [List.length_cons, List.length_nil]; omega)] at h ⊢
 simp only [rangeC] at h ⊢
 rw [tfew_eq hd hw (by omega) (by omega)]
 simp only [Option.bind_some]
 cases decide ((tsT t : Int) ≤ 80) with
 | false => rfl
 | true => simp only [if_true, Bool.true_and]; exact h
theorem Cost_w {n : Nat} {r : List Int} {a : Automaton} {t : Tree} {R M I c : Int} (w : AW a) (hd : tdT t < n) (hw : twT t = true) (h : repair_Cost n ⟨r⟩ a t ⟨R, M, I⟩ = some (c, 0)) : wB R M I = true := by
 unfold repair_Cost repair_checked at h
 rw [auto_eq r a w, Option.bind_some] at h
 by_cases c1 : aV r a = true
 ·rw [if_pos c1, tvalid_eq r hd hw, Option.bind_some] at h
  by_cases c2 : tvld r t = true
  ·rw [if_pos c2, fits_eq, Option.bind_some] at h
   by_cases c3 : wB R M I = true
   ·exact c3
   ·rw [if_neg c3, Option.bind_some] at h
    injection h with h; injection h with _ h; cases h
  ·rw [if_neg c2, Option.bind_some] at h
   injection h with h; injection h with _ h; cases h
 ·rw [if_neg c1, Option.bind_some] at h
  injection h with h; injection h with _ h; cases h
theorem Distance_some {n : Nat} {r : List Int} {t u : Tree} {R M I : Int} (hd : tdT t + 1 < n) (hd' : tdT u + 1 < n) (hw : twT t = true) (hw' : twT u = true) (hs : tsT t ≤ 80) (hs' : tsT u ≤ 80) :
 ∃ x y, repair_Distance n ⟨r⟩ t u ⟨R, M, I⟩ = some (x, y) ∧ (y = 0 → WOk R M I ∧ x = dT R M I t u) := by
 rw [Distance_eq hd hd' hw hw' hs hs']
 by_cases g1 : tvld r t = true ∧ tvld r u = true
 ·rw [if_pos g1]
  by_cases g2 : wB R M I = true
  ·rw [if_pos g2]; exact ⟨_, _, rfl, fun _ => ⟨wok_of g2, rfl⟩⟩
  ·rw [if_neg g2]; exact ⟨_, _, rfl, fun h => by cases h⟩
 ·rw [if_neg g1]; exact ⟨_, _, rfl, fun h => by cases h⟩
theorem Holes_some {n : Nat} {r : List Int} {a : Automaton} {t u : Tree} (w : AW a) (hd : tdT t + 2 < n) (hw : twT t = true) (hf : fewB r a t = true) :
 ∃ l g, repair_Holes n ⟨r⟩ a t = some (l, g) ∧ (A3.ask r a t = 0 → g = 0 → (l = [] ↔ ∃ s ∈ a.Final, A3.stT a t s = true)) := by
 by_cases c1 : aV r a = true
 ·by_cases c2 : tvld r t = true
  ·have ha := ok_of c1 hf
   obtain ⟨n0, E, S, h1, h2, h3, h4, h5⟩ := sizes_same ha
   have hzp : (posV E).length = a.States.toNat := by unfold posV; rw [List.length_map, h3]
   refine ⟨(holT a (posV E) t).1, (holT a (posV E) t).2, hprog_top w hd hw hf c1 c2 h1 h3, fun _ => ?_⟩
   unfold holT
   split
   ·rename_i h
    intro _
    exact holes_zero ha hzp t h
   ·intro h; cases h
  ·refine ⟨[], 1, ?_, fun h => absurd (ask_iff.1 h).2 c2⟩
   unfold repair_Holes
   rw [auto_eq r a w, c1, Option.bind_some, if_pos rfl, tvalid_eq r (by omega) hw, Option.bind_some, if_neg c2]
 ·refine ⟨[], 1, ?_, fun h => absurd (ask_iff.1 h).1 c1⟩
  unfold repair_Holes
  rw [auto_eq r a w, Option.bind_some, if_neg c1]
theorem laws_law (m : Nat) (r : List Int) (a : Automaton) (t u v : Tree) (R M I : Int) (w : AW a) (hd : tdT t ≤ m) (hd' : tdT u ≤ m) (hd'' : tdT v ≤ m) (hw : twT t = true) (hw' : twT u = true) (hw'' : twT v = true) : law22_RepairLaws (m + 20) ⟨r⟩ a t u v ⟨R, M, I⟩ = some true := by
 unfold law22_RepairLaws law22_given jn
 rw [few3_eq r a t u v w (by omega) hw (by omega) hw' (by omega) hw'', awake_eq]
 simp only [Option.bind_some]
 by_cases c : (decide ((tsT t : Int) ≤ 80) && (decide ((tsT u : Int) ≤ 80) && fewB r a v)) = true
 ·rw [if_pos c]
  rw [Bool.and_eq_true, Bool.and_eq_true, decide_eq_true_eq, decide_eq_true_eq] at c
  obtain ⟨c1, c2, c3⟩ := c
  have hft : fewB r a t = true := by
   unfold fewB at c3 ⊢
   rw [Bool.and_eq_true] at c3 ⊢
   exact ⟨decide_eq_true c1, c3.2⟩
  have hs3 : tsT v ≤ 80 := by
   unfold fewB at c3
   simp only [Bool.and_eq_true, decide_eq_true_eq] at c3
   omega
  have hs : tsT t ≤ 80 := by omega
  have hs2 : tsT u ≤ 80 := by omega
  obtain ⟨b, e1, e2⟩ := A3.Accepts_eq (n := m + 20) (t := t) w (by omega) hw (fun h => A3.ok_of h hft) (by omega)
  obtain ⟨k, e, f1, f2⟩ := Cost_eq (n := m + 20) (t := t) (R := R) (M := M) (I := I) w (by omega) hw (fun h => ok_of h hft) hs
  obtain ⟨hl, hg, h1, h2⟩ := Holes_some (n := m + 20) (t := t) (u := t) w (by omega) hw hft
  obtain ⟨x1, y1, p1, q1⟩ := Distance_some (n := m + 20) (r := r) (t := t) (u := u) (R := R) (M := M) (I := I) (by omega) (by omega) hw hw' hs hs2
  obtain ⟨x2, y2, p2, q2⟩ := Distance_some (n := m + 20) (r := r) (t := u) (u := v) (R := R) (M := M) (I := I) (by omega) (by omega) hw' hw'' hs2 hs3
  obtain ⟨x3, y3, p3, q3⟩ := Distance_some (n := m + 20) (r := r) (t := t) (u := v) (R := R) (M := M) (I := I) (by omega) (by omega) hw hw'' hs hs3
  obtain ⟨x4, y4, p4, q4⟩ := Distance_some (n := m + 20) (r := r) (t := u) (u := t) (R := R) (M := M) (I := I) (by omega) (by omega) hw' hw hs2 hs
  have F1 : A3.ask r a t = 0 → e = 0 → ¬ R = 0 → 0 < M → 0 < I → b = (k == 0) := by
   intro g1 g2 g3 g4 g5
   have hv := ask_iff.1 g1
   subst g2
   have hwb := Cost_w w (by omega) hw f1
   obtain ⟨z, v1, v2, v3, q, o1, o2⟩ := f2 hv.1 hv.2 hwb
   have hA := ok_of hv.1 hft
   have hC := cosT_CV (R := R) (M := M) (I := I) v1 (wok_of hwb) t
   rcases o2 with ⟨_, _, h⟩ | ⟨_, _, _, h⟩ | ⟨o3, _, o4, _⟩
   ·cases h
   ·cases h
   rcases o1 with ⟨h, _⟩ | ⟨o5, _, _, o6, _⟩
   ·omega
   have hfin := hA.fins q.1 o5
   have hgz := hC.gz q.1
   rw [Bool.eq_iff_iff, beq_iff_eq]
   constructor
   ·intro hb
    obtain ⟨s, s1, s2⟩ := (e2 g1).1 hb
    have hle := cost_le (A3.ok_of hv.1 hft) hA (wok_of hwb) v1 v3 (q := q) (t := t) (.inr ⟨o5, by omega, by assumption, o6, by assumption⟩) (tv_sh hv.2) hs s1 s2
    rw [dT_self (wok_of hwb)] at hle
    omega
   ·intro hk
    exact (e2 g1).2 ⟨q.1, o5, zero_run hA v1 (wok_of hwb) g3 g4 t q.1 hfin.1 (by omega) (by omega)⟩
  have F2 : A3.ask r a t = 0 → hg = 0 → b = ((hl.length : Int) == 0) := by
   intro g1 g2
   have h3 := h2 g1 g2
   rw [Bool.eq_iff_iff, beq_iff_eq, e2 g1, ← h3]
   constructor
   ·intro h; rw [h]; rfl
   ·intro h; exact List.length_eq_zero_iff.1 (by omega)
  have F3 : ¬ R < 0 → M = I → y1 = 0 → y2 = 0 → y3 = 0 → y4 = 0 → x1 = x4 ∧ x3 ≤ w64 (x1 + x2) := by
   intro g1 g2 g3 g4 g5 g6
   subst g2
   obtain ⟨W, j1⟩ := q1 g3
   have j2 := (q2 g4).2
   have j3 := (q3 g5).2
   have j4 := (q4 g6).2
   have b1 := dT_big W t u
   have b2 := dT_big W u v
   have n1 := (dT_bd W t u).1
   have n2 := (dT_bd W u v).1
   rw [j1, j2, j3, j4, w64_eq (by omega) (by omega)]
   exact ⟨dT_symm t u, dT_tri (by omega) W.m.1 t u v⟩
  rw [e1, f1, h1, p1, p2, p3, p4]
  simp only [Option.bind_some]
  clear e1 f1 h1 p1 p2 p3 p4 e2 f2 h2 q1 q2 q3 q4
  have T : (if R < 0 then some true else if M = I then (if w64 (2 * M) < R then some true else if y1 = 0 then (if y2 = 0 then (if y3 = 0 then (if y4 = 0 then (if x1 = x4 then (if x3 ≤ w64 (x1 + x2) then some true else some false) else some false) else some true) else some true) else some true) else some true) else some true : Option Bool) = some true := by
   by_cases g1 : R < 0
   ·rw [if_pos g1]
   rw [if_neg g1]
   by_cases g2 : M = I
   ·rw [if_pos g2]
    by_cases g3 : w64 (2 * M) < R
    ·rw [if_pos g3]
    rw [if_neg g3]
    by_cases g4 : y1 = 0
    ·rw [if_pos g4]
     by_cases g5 : y2 = 0
     ·rw [if_pos g5]
      by_cases g6 : y3 = 0
      ·rw [if_pos g6]
       by_cases g7 : y4 = 0
       ·obtain ⟨j1, j2⟩ := F3 g1 g2 g4 g5 g6 g7
        rw [if_pos g7, if_pos j1, if_pos j2]
       ·rw [if_neg g7]
      ·rw [if_neg g6]
     ·rw [if_neg g5]
    ·rw [if_neg g4]
   ·rw [if_neg g2]
  simp only [T]
  have G : A3.ask r a t = 0 → (if hg = 0 then (if b = ((hl.length : Int) == 0) then some true else some false) else some true : Option Bool) = some true := fun g1 => by
   by_cases g2 : hg = 0
   ·rw [if_pos g2, if_pos (F2 g1 g2)]
   ·rw [if_neg g2]
  by_cases g1 : A3.ask r a t = 0
  ·rw [if_pos g1]
   simp only [G g1]
   by_cases g2 : e = 0
   ·rw [if_pos g2]
    by_cases g3 : R = 0
    ·rw [if_pos g3]
    ·rw [if_neg g3]
     by_cases g4 : 0 < M
     ·rw [if_pos g4]
      by_cases g5 : 0 < I
      ·rw [if_pos g5, if_pos (F1 g1 g2 g3 g4 g5)]
      ·rw [if_neg g5]
     ·rw [if_neg g4]
   ·rw [if_neg g2]
  ·rw [if_neg g1]
 ·rw [if_neg c]
end Tab
theorem closed6 : closedB T [3, 22, 24, 25, 27, 28, 30, 43, 64] = true := by decide +kernel
theorem law6 (pss : List (List PV)) (h : wtAll T [24, 27, 30, 30, 30, 43] pss) : ∃ σ', call Try.prog T H (.fn 6) (argsOf T [24, 27, 30, 30, 30, 43] pss) [] = some (.ret (.p (.lit (.bool true))), σ') := by
 obtain ⟨p1, r1, rfl, ⟨n1, w1⟩, p2, r2, rfl, ⟨n2, w2⟩, p3, r3, rfl, ⟨n3, w3⟩, p4, r4, rfl, ⟨n4, w4⟩, p6, r6, rfl, ⟨n6, w6⟩, p5, r5, rfl, ⟨n5, w5⟩, rfl⟩ := h
 obtain ⟨r, rfl⟩ := wt24 w1
 obtain ⟨a, rfl, ha⟩ := wt27 w2
 obtain ⟨x, rfl, hx⟩ := wt30 n3 p3 w3
 obtain ⟨y, rfl, hy⟩ := wt30 n4 p4 w4
 obtain ⟨z, rfl, hz⟩ := wt30 n6 p6 w6
 obtain ⟨w, rfl⟩ := wt43 w5
 have := spec6 (max (tdT x) (max (tdT y) (tdT z)) + 20) ⟨r⟩ a x y z w true (Tab.laws_law _ r a x y z w.Relabel w.Remove w.Insert ha (Nat.le_max_left _ _) (Nat.le_trans (Nat.le_max_left _ _) (Nat.le_max_right _ _)) (Nat.le_trans (Nat.le_max_right _ _) (Nat.le_max_right _ _)) hx hy hz)
 rw [row_Tree_eq, row_Tree_eq, row_Tree_eq]
 exact ⟨[], this⟩
end Go.AM.S22

