/- What the functions of this seat compute on the abstract machine, function by function, and the plain laws. -/
import Derived.Test.YtnfggookadgjiaaLaws
import Derived.Test.YtnfggookadgjiaaTab
import Derived.Test.YtnfggookadgjiaaAmGen
import Derived.Test.YtnfggookadgjiaaAmEntry
import Derived.Test.YtnfggookadgjiaaAmVal
set_option linter.unusedVariables false
set_option linter.unusedSimpArgs false
namespace Go.AM.S22
open Go Go.Proofs Go.AM
set_option linter.unusedVariables false
set_option maxRecDepth 100000
set_option maxHeartbeats 4000000
namespace Tab
open Go Go.Proofs Go.AM Go.AM.S22
def FAR : Int := 2199023255552
def newsC (I n : Int) : Int := if n = 0 then FAR else if I = 0 then 0 else if 1099511627776 < n then FAR else n * I
def sumC : List (List Int) → List Int → Int → Int
  | c :: cs, f :: fs, s => sumC cs fs (min (s + gz c f) FAR)
  | _, _, s => s
def keepC (R : Int) (sym : Int) (kids : List (List Int)) (x : Rule) : Int :=
  if x.Sym ≠ sym ∧ R < 0 then FAR else if x.From.length = kids.length then sumC kids x.From (if x.Sym = sym then 0 else R) else FAR
def stC (R : Int) (sym : Int) (kids : List (List Int)) (row : List Int) (x : Rule) : List Int := row.set x.To.toNat (min (gz row x.To) (keepC R sym kids x))
def rowC (a : Automaton) (v : List Int) (R M I : Int) (sym : Int) (size : Nat) (kids : List (List Int)) : List Int :=
  a.Rules.foldl (stC R sym kids) (v.map fun n => min (M * (size : Int) + newsC I n) FAR)
mutual
def cosT (a : Automaton) (v : List Int) (R M I : Int) : Tree → List Int
  | .mk s ks => rowC a v R M I s (tsT (.mk s ks)) (cosL a v R M I ks)
def cosL (a : Automaton) (v : List Int) (R M I : Int) : List Tree → List (List Int)
  | [] => []
  | k :: ks => cosT a v R M I k :: cosL a v R M I ks
end
theorem cosT_eq (a : Automaton) (v : List Int) (R M I : Int) (t : Tree) : cosT a v R M I t = rowC a v R M I t.Sym (tsT t) (cosL a v R M I t.Kids) := by cases t; rw [cosT]
theorem cosL_map (a : Automaton) (v : List Int) (R M I : Int) : ∀ ks, cosL a v R M I ks = ks.map (cosT a v R M I)
  | [] => by rw [cosL]; rfl
  | k :: ks => by rw [cosL, cosL_map a v R M I ks]; rfl
structure CV (m : Nat) (c : List Int) : Prop where
  len : c.length = m
  bd : ∀ x ∈ c, 0 ≤ x ∧ x ≤ FAR
theorem CV.gz {m : Nat} {c : List Int} (h : CV m c) (x : Int) : 0 ≤ gz c x ∧ gz c x ≤ FAR := by
  unfold S22.gz
  cases e : c[x.toNat]? with
  | none => simp [FAR]
  | some y => exact h.bd y (List.mem_of_getElem? e)
theorem CV.set {m : Nat} {c : List Int} (h : CV m c) (i : Nat) {s : Int} (h0 : 0 ≤ s) (h1 : s ≤ FAR) : CV m (c.set i s) :=
  ⟨by rw [List.length_set, h.len], fun x hx => by
    rcases List.mem_or_eq_of_mem_set hx with hx | rfl
    · exact h.bd x hx
    · exact ⟨h0, h1⟩⟩
theorem CV.idx {m : Nat} {c : List Int} (h : CV m c) {x : Int} (h0 : 0 ≤ x) (h1 : x < (m : Int)) : idx c x = some (S22.gz c x) := idx_get h.len h0 h1
theorem CV.idxM {m : Nat} {c : List Int} (h : CV m c) {x : Int} (h0 : 0 ≤ x) (h1 : x < (m : Int)) : idxM m c x = some (S22.gz c x) := by
  unfold Go.AM.idxM S22.gz
  rw [if_pos (by omega), List.getElem?_eq_getElem (by rw [h.len]; omega)]; rfl
theorem newsC_bd {I n : Int} (hi : 0 ≤ I ∧ I ≤ 1000) (hn : 0 ≤ n) : 0 ≤ newsC I n ∧ newsC I n ≤ 1099511627776000 := by
  unfold newsC FAR
  split
  · omega
  · split
    · omega
    · split
      · omega
      · have := Int.mul_nonneg hn hi.1
        have := Int.mul_le_mul_of_nonneg_left hi.2 hn
        omega
theorem sumC_bd {m : Nat} : ∀ (cs : List (List Int)) (f : List Int) (s : Int), (∀ c ∈ cs, CV m c) → 0 ≤ s → s ≤ FAR → 0 ≤ sumC cs f s ∧ sumC cs f s ≤ FAR
  | [], _, s, _, h0, h1 => by rw [sumC]; exact ⟨h0, h1⟩; all_goals (intros; contradiction)
  | c :: cs, [], s, _, h0, h1 => by rw [sumC]; exact ⟨h0, h1⟩; all_goals (intros; contradiction)
  | c :: cs, x :: f, s, h, h0, h1 => by
    have := (h c (by simp)).gz x
    rw [sumC]
    exact sumC_bd cs f _ (fun d hd => h d (List.mem_cons_of_mem _ hd)) (by unfold FAR at *; omega) (by omega)
theorem keepC_bd {m : Nat} {R sym : Int} {kids : List (List Int)} (hk : ∀ c ∈ kids, CV m c) (hr : -1 ≤ R ∧ R ≤ 1000) (x : Rule) : 0 ≤ keepC R sym kids x ∧ keepC R sym kids x ≤ FAR := by
  unfold keepC
  split
  · unfold FAR; omega
  · rename_i h
    split
    · refine sumC_bd kids _ _ hk ?_ ?_
      · split
        · omega
        · rename_i h2
          have : ¬ R < 0 := fun h3 => h ⟨h2, h3⟩
          omega
      · unfold FAR; split <;> omega
    · unfold FAR; omega
theorem stC_CV {m : Nat} {R sym : Int} {kids : List (List Int)} (hk : ∀ c ∈ kids, CV m c) (hr : -1 ≤ R ∧ R ≤ 1000) {row : List Int} (h : CV m row) (x : Rule) : CV m (stC R sym kids row x) := by
  have h1 := h.gz x.To
  have h2 := keepC_bd hk hr (sym := sym) x
  exact h.set _ (by omega) (by omega)
theorem foldC_CV {m : Nat} {R sym : Int} {kids : List (List Int)} (hk : ∀ c ∈ kids, CV m c) (hr : -1 ≤ R ∧ R ≤ 1000) : ∀ (l : List Rule) (row : List Int), CV m row → CV m (l.foldl (stC R sym kids) row)
  | [], _, h => h
  | x :: l, row, h => foldC_CV hk hr l _ (stC_CV hk hr h x)
theorem ini_CV {a : Automaton} {v : List Int} {M I : Int} (hv : ZV a.States.toNat v) (hm : 0 ≤ M ∧ M ≤ 1000) (hi : 0 ≤ I ∧ I ≤ 1000) (size : Nat) : CV a.States.toNat (v.map fun n => min (M * (size : Int) + newsC I n) FAR) := by
  refine ⟨by rw [List.length_map, hv.len], fun x hx => ?_⟩
  obtain ⟨n, hn, rfl⟩ := List.mem_map.1 hx
  have h1 := (newsC_bd hi (hv.bd n hn).1).1
  have h2 := (mul_bd hm size).1
  unfold FAR; omega
mutual
theorem cosT_CV {a : Automaton} {v : List Int} {R M I : Int} (hv : ZV a.States.toNat v) (w : WOk R M I) : ∀ t : Tree, CV a.States.toNat (cosT a v R M I t)
  | .mk s ks => by
    rw [cosT, rowC]
    exact foldC_CV (cosL_CV hv w ks) w.r _ _ (ini_CV hv w.m w.i _)
theorem cosL_CV {a : Automaton} {v : List Int} {R M I : Int} (hv : ZV a.States.toNat v) (w : WOk R M I) : ∀ ks : List Tree, ∀ c ∈ cosL a v R M I ks, CV a.States.toNat c
  | [], c, h => by rw [cosL] at h; cases h
  | k :: ks, c, h => by
    rw [cosL] at h
    rcases List.mem_cons.1 h with rfl | h
    · exact cosT_CV hv w k
    · exact cosL_CV hv w ks c h
end
/-- the places of the costs of some trees -/
def KR (C : Tree → List Int) (cost : List (List Int)) (roots : List Int) (ks : List Tree) : Prop :=
  roots.length = ks.length ∧ ∀ (i : Nat) k t, roots[i]? = some k → ks[i]? = some t → idx cost k = some (C t)
theorem keep_loop {m : Nat} {C : Tree → List Int} {cost : List (List Int)} {roots : List Int} {all : List Tree} (hk : KR C cost roots all) (hC : ∀ t ∈ all, CV m (C t)) {Rr : Type} : ∀ (f : List Int) (ks : List Tree) (i : Nat) (s : Int) (K : Int → Option Rr),
    all.drop i = ks → f.length = ks.length → (∀ x ∈ f, 0 ≤ x ∧ x < (m : Int)) → 0 ≤ s → s ≤ FAR →
    rangeC (fun i1 x1 (s1 : Int) n1 => (roots[i1]?).bind fun v3 => (idx cost v3).bind fun v4 => (idx v4 x1).bind fun v5 => (repair_least_int (w64 (s1 + v5)) 2199023255552).bind fun v6 => n1 v6) f i s K = K (sumC (ks.map C) f s)
  | [], ks, i, s, K, hd, hl, _, _, _ => by
    have : ks = [] := List.length_eq_zero_iff.1 hl.symm
    subst this
    rw [rangeC]; rfl
  | x :: f, [], _, _, _, _, h, _, _, _ => by cases h
  | x :: f, k :: ks, i, s, K, hd, hl, hf, h0, h1 => by
    have hy : all[i]? = some k := by
      have := List.getElem?_drop (xs := all) (i := i) (j := 0)
      rw [hd] at this
      simpa using this.symm
    have hd' : all.drop (i + 1) = ks := by
      have : all.drop (i + 1) = (all.drop i).drop 1 := by rw [List.drop_drop]
      rw [this, hd]; rfl
    have hil := (List.getElem?_eq_some_iff.1 hy).1
    obtain ⟨q, hq⟩ : ∃ q, roots[i]? = some q := ⟨_, List.getElem?_eq_getElem (by rw [hk.1]; exact hil)⟩
    have hc := hC k (List.mem_of_getElem? hy)
    have hx := hf x (by simp)
    have hg := hc.gz x
    unfold FAR at h1 hg
    rw [rangeC, hq, Option.bind_some, hk.2 i q k hq hy, Option.bind_some, hc.idx hx.1 hx.2, Option.bind_some, w64_eq (by omega) (by omega), least_eq, Option.bind_some]
    refine (keep_loop hk hC f ks (i + 1) (min (s + S22.gz (C k) x) 2199023255552) K hd' (by simpa using hl) (fun y hy => hf y (List.mem_cons_of_mem _ hy)) (by omega) (by unfold FAR; omega)).trans ?_
    rw [List.map_cons, sumC]; rfl
theorem keep_eq {a : Automaton} (ha : OKa a) {C : Tree → List Int} {tb : repair_table} {u : Tree} {roots : List Int} {c : Nat} (hk : KR C tb.cost roots u.Kids) (hC : ∀ t ∈ u.Kids, CV a.States.toNat (C t)) (ht : tb.tree[c]? = some u) (hr : tb.kids[c]? = some roots) (hs : tsT u ≤ 80)
    (hw : -1 ≤ tb.w.Relabel ∧ tb.w.Relabel ≤ 1000) {x : Rule} (hx : x ∈ a.Rules) : repair_table_keep_wxx tb x (c : Int) = some (keepC tb.w.Relabel u.Sym (u.Kids.map C) x) := by
  have hst := ha.st
  have hfr := ha.from' x hx
  have hfl := ha.frm x hx
  have hlk := tlen u.Kids
  have hts := tsT_eq u
  have i1 : idx tb.tree (c : Int) = some u := by unfold idx; rw [if_pos (by omega), Int.toNat_natCast, ht]
  have i2 : idx tb.kids (c : Int) = some roots := by unfold idx; rw [if_pos (by omega), Int.toNat_natCast, hr]
  have hkl := hk.1
  unfold repair_table_keep_wxx keepC
  rw [i1, Option.bind_some, List.length_map]
  by_cases e1 : x.Sym = u.Sym
  · rw [if_pos e1, if_neg (fun h => h.1 e1), i2, Option.bind_some]
    by_cases e2 : x.From.length = u.Kids.length
    · rw [if_pos (show (x.From.length : Int) = roots.length by omega), if_pos e2, if_pos e1, rangeL, if_pos (by omega)]
      exact keep_loop hk hC x.From u.Kids 0 0 _ (by simp) e2 (fun y hy => by have := hfr y hy; omega) (by omega) (by unfold FAR; omega)
    · rw [if_neg (show ¬ (x.From.length : Int) = roots.length by omega), if_neg e2]; rfl
  · rw [if_neg e1]
    by_cases e3 : tb.w.Relabel < 0
    · rw [if_pos e3, if_pos ⟨e1, e3⟩]; rfl
    · rw [if_neg e3, if_neg (fun h => e3 h.2), i2, Option.bind_some]
      by_cases e2 : x.From.length = u.Kids.length
      · rw [if_pos (show (x.From.length : Int) = roots.length by omega), if_pos e2, if_neg e1, rangeL, if_pos (by omega)]
        exact keep_loop hk hC x.From u.Kids 0 tb.w.Relabel _ (by simp) e2 (fun y hy => by have := hfr y hy; omega) (by omega) (by unfold FAR; omega)
      · rw [if_neg (show ¬ (x.From.length : Int) = roots.length by omega), if_neg e2]; rfl
theorem news_eq {m : Nat} {tb : repair_table} (hv : ZV m tb.size) (hi : 0 ≤ tb.w.Insert ∧ tb.w.Insert ≤ 1000) {i : Nat} {n : Int} (h : tb.size[i]? = some n) : repair_table_news_wx tb (i : Int) = some (newsC tb.w.Insert n) := by
  have hb := hv.bd n (List.mem_of_getElem? h)
  unfold repair_table_news_wx newsC
  have : idx tb.size (i : Int) = some n := by unfold idx; rw [if_pos (by omega), Int.toNat_natCast, h]
  rw [this, Option.bind_some]
  by_cases c1 : n = 0
  · rw [if_pos c1, if_pos c1]; rfl
  · rw [if_neg c1, if_neg c1]
    by_cases c2 : tb.w.Insert = 0
    · rw [if_pos c2, if_pos c2]
    · rw [if_neg c2, if_neg c2]
      by_cases c3 : 1099511627776 < n
      · rw [if_pos c3, if_pos c3]; rfl
      · have h1 := Int.mul_nonneg hb.1 hi.1
        have h2 := Int.mul_le_mul_of_nonneg_left hi.2 hb.1
        rw [if_neg c3, if_neg c3, w64_eq (by omega) (by omega)]
/-- the rows of a round -/
theorem rows_eq {a : Automaton} (ha : OKa a) {C : Tree → List Int} {tb : repair_table} {u : Tree} {roots : List Int} {c n : Nat} (hk : KR C tb.cost roots u.Kids) (hC : ∀ t ∈ u.Kids, CV a.States.toNat (C t)) (ht : tb.tree[c]? = some u) (hr : tb.kids[c]? = some roots) (hs : tsT u ≤ 80)
    (hv : ZV a.States.toNat tb.size) (hw : -1 ≤ tb.w.Relabel ∧ tb.w.Relabel ≤ 1000) (hm : 0 ≤ tb.w.Remove ∧ tb.w.Remove ≤ 1000) (hi : 0 ≤ tb.w.Insert ∧ tb.w.Insert ≤ 1000) {Rr : Type} (K : List Int → Option Rr) :
    (rangeI ((a.States).toNat : Int) (List.replicate a.States.toNat 0) (fun k1 i1 (s1 : (List Int)) n1 =>
      (repair_table_news_wx tb ((i1 : Nat) : Int)).bind fun v13 =>
      (repair_least_int (w64 ((w64 (tb.w.Remove * (tsT u : Int))) + v13)) 2199023255552).bind fun v14 =>
      (idxM ((a.States).toNat) s1 ((i1 : Nat) : Int)).bind fun v15 =>
      n1 (List.set s1 i1 v14)) fun s1 =>
    rangeL a.Rules s1 (fun k2 i2 x2 (s2 : (List Int)) n2 =>
      (idxM ((a.States).toNat) s2 x2.To).bind fun v10 =>
      (repair_table_keep_wxx tb x2 (c : Int)).bind fun v11 =>
      (repair_least_int v10 v11).bind fun v12 =>
      n2 (List.set s2 ((x2.To).toNat) v12)) K) = K (rowC a tb.size tb.w.Relabel tb.w.Remove tb.w.Insert u.Sym (tsT u) (u.Kids.map C)) := by
  have hst := ha.st
  have hrl := ha.rul
  have hm2 := mul_bd hm (tsT u)
  rw [rangeI, if_pos (by omega)]
  have hin := iniG (R := Rr) (f := fun n => min (tb.w.Remove * (tsT u : Int) + newsC tb.w.Insert n) FAR) (z0 := 0) (m := a.States.toNat) hv.len
    (body := fun i1 (_ : Unit) (s1 : List Int) n1 => (repair_table_news_wx tb ((i1 : Nat) : Int)).bind fun v13 =>
      (repair_least_int (w64 ((w64 (tb.w.Remove * (tsT u : Int))) + v13)) 2199023255552).bind fun v14 =>
      (idxM ((a.States).toNat) s1 ((i1 : Nat) : Int)).bind fun v15 => n1 (List.set s1 i1 v14))
    (fun i s n1 v hz hl hg => by
      have hlt := (List.getElem?_eq_some_iff.1 hg).1
      have hb := newsC_bd hi (hv.bd v (List.mem_of_getElem? hz)).1
      have hix : idxM a.States.toNat s (i : Int) = some 0 := by
        unfold idxM
        rw [if_pos (by omega), Int.toNat_natCast, hg]
      rw [news_eq hv hi hz, Option.bind_some, w64_eq (n := tb.w.Remove * _) (by omega) (by omega), w64_eq (by omega) (by omega), least_eq, Option.bind_some, hix, Option.bind_some]; rfl)
    (fun s1 => rangeL a.Rules s1 (fun k2 i2 x2 (s2 : (List Int)) n2 =>
      (idxM ((a.States).toNat) s2 x2.To).bind fun v10 =>
      (repair_table_keep_wxx tb x2 (c : Int)).bind fun v11 =>
      (repair_least_int v10 v11).bind fun v12 =>
      n2 (List.set s2 ((x2.To).toNat) v12)) K) tb.size [] rfl
  rw [hv.len] at hin
  simp only [List.length_nil, List.map_nil, List.nil_append, Int.toNat_natCast] at hin ⊢
  rw [hin, rangeL, if_pos (by omega)]
  have hKC : ∀ c ∈ u.Kids.map C, CV a.States.toNat c := fun c hc => by
    obtain ⟨t, h1, rfl⟩ := List.mem_map.1 hc
    exact hC t h1
  refine (S22.foldC (step := stC tb.w.Relabel u.Sym (u.Kids.map C)) (fun row => CV a.States.toNat row) a.Rules 0 _ K (ini_CV hv hm hi _) (fun j x s n1 hx hI => ?_) fun x s hx hI => stC_CV hKC hw hI x).1
  have hto := ha.to x hx
  rw [hI.idxM hto.1 (by omega), Option.bind_some, keep_eq ha hk hC ht hr hs hw hx, Option.bind_some, least_eq, Option.bind_some]; rfl
end Tab
end Go.AM.S22

namespace Go.AM.S22
open Go Go.Proofs Go.AM
set_option maxRecDepth 100000
/-- the examples of the chapter, evaluated -/
def law22_awake (n : Nat) : Option Bool := some true
theorem aw9 : callK Try.prog T H 400 (.fn 9) [] [] = some (.ret (.p (bv true)), []) := by kernel_rfl
theorem spec9 (n : Nat) (r : Bool) (h : law22_awake n = some r) : call Try.prog T H (.fn 9) [] [] = some (.ret (.p (bv r)), []) := by
  injection h with h
  subst h
  exact call_le 400 _ _ _ _ aw9
end Go.AM.S22

namespace Go.AM.S22
open Go Go.Proofs Go.AM
set_option maxRecDepth 100000
set_option linter.unusedVariables false
set_option maxHeartbeats 4000000


def repair_tableOf (n : Nat) (a0 : Alphabet) (a1 : Automaton) (a2 : Tree) (a3 : repair_Weights) : Option (repair_table × Int) :=
  (empty_Sizes a0 a1).bind fun v1 =>
  if v1.2 = 0 then
    (Tab.walk n a1 a3 n a2 ((none, (repair_table.mk a1 a3 v1.1 ([] : List (List Int)) ([] : List (List Int)) ([] : List Tree))), 0)).bind fun v =>
    (v.1.1).bind fun w =>
    some (v.1.2, 0)
  else
    none
theorem spec81 (n : Nat) (a0 : Alphabet) (a1 : Automaton) (a2 : Tree) (a3 : repair_Weights) (r : repair_table × Int) (h : repair_tableOf n a0 a1 a2 a3 = some r) :
    call Try.prog T H (.fn 81) [.p (.agg [.sl none 1 (List.map rowI a0.Ranks)]), .p (.agg [iv a1.States, .sl none 1 (List.map rowI a1.Final), .sl none 3 (List.map row_Rule a1.Rules)]), .p (.agg [iv a2.Sym, .sl none 2 (List.map row_Tree a2.Kids)]), .p (.agg [iv a3.Relabel, iv a3.Remove, iv a3.Insert])] [] = some (.ret (.p (.tup [.pp [iv r.1.a.States, .sl none 1 (List.map rowI r.1.a.Final), .sl none 3 (List.map row_Rule r.1.a.Rules), iv r.1.w.Relabel, iv r.1.w.Remove, iv r.1.w.Insert, .sl none 1 (List.map rowI r.1.size), .sl none 1 (List.map (rowL 1 rowI) r.1.cost), .sl none 1 (List.map (rowL 1 rowI) r.1.kids), .sl none 2 (List.map row_Tree r.1.tree)], iv r.2])), []) := by
  refine Sat.fn fun Q hQ => ?_
  unfold repair_tableOf at h
  rw [call81, cf81]
  conv => arg 1; arg 7; unfold S22.c81 Try.f81; simp only [Option.getD_some, foldR, if_true]
  obtain ⟨v1, e_v1, h⟩ := ob h
  have e_v1c : call Try.prog T H (.fn 37) [.p (.agg [.sl none 1 (List.map rowI a0.Ranks)]), .p (.agg [iv a1.States, .sl none 1 (List.map rowI a1.Final), .sl none 3 (List.map row_Rule a1.Rules)])] [] = some (.ret (.p (.tup [.sl none 1 (List.map rowI v1.1), iv v1.2])), []) := spec37 a0 a1 v1 e_v1
  by_cases c1 : v1.2 = 0
  · have h := iteT h c1
    have c1b : (v1.2 != 0) = false := bneF c1
    simp only [go_sem, e_v1c, c1b]
    refine Sat.callc ?_
    rw [call30]
    conv => arg 1; arg 7; unfold S22.c30 Try.f30; simp only [Option.getD_some]
    simp only [go_sem]
    refine Sat.ok ?_
    obtain ⟨v, e_v, h⟩ := ob h
    obtain ⟨w, e_w, h⟩ := ob h
    simp only [go_sem, e_v1c, c1b]
    have q : ∀ E c0 c2 c8, get E 5 = .ptr 1 0 → get E 7 = .ptr 3 0 → get E 12 = .ptr 5 0 → get E 13 = .ptr 7 0 → ltVis 9 E = true → call Try.prog T H (.fn 65) [.p (.agg [iv a2.Sym, .sl none 2 (List.map row_Tree a2.Kids)]), .ptr 12 0, .ptr 11 0, .ptr 10 0] [c0, .cells [.p (iv a1.States), .p (.sl none 1 (List.map rowI a1.Final)), .p (.sl none 3 (List.map row_Rule a1.Rules))], c2, .cells [.p (iv a3.Relabel), .p (iv a3.Remove), .p (iv a3.Insert)], .cells [.p (iv a1.States), .p (.sl none 1 (List.map rowI a1.Final)), .p (.sl none 3 (List.map row_Rule a1.Rules)), .p (iv a3.Relabel), .p (iv a3.Remove), .p (iv a3.Insert), .p (.sl none 1 (List.map rowI v1.1)), .own 1 [], .own 1 [], .own 2 []], .cells [.ptr 4 0], .dead, .cells [.nms 6 1], c8, .loop 0 none 131 81 E [38, 39] A81_0 B81_0, .cells [.yld 9], .cells [.p (iv 0)], .cells [.fn 65 [.ptr 12 0, .ptr 11 0, .ptr 10 0]]] = some (.ret (.p (bv true)), [c0, .cells [.p (iv a1.States), .p (.sl none 1 (List.map rowI a1.Final)), .p (.sl none 3 (List.map row_Rule a1.Rules))], c2, .cells [.p (iv a3.Relabel), .p (iv a3.Remove), .p (iv a3.Insert)], .cells [.p (iv v.1.2.a.States), .p (.sl none 1 (List.map rowI v.1.2.a.Final)), .p (.sl none 3 (List.map row_Rule v.1.2.a.Rules)), .p (iv v.1.2.w.Relabel), .p (iv v.1.2.w.Remove), .p (iv v.1.2.w.Insert), .p (.sl none 1 (List.map rowI v.1.2.size)), .own 1 (List.map (rowL 1 rowI) v.1.2.cost), .own 1 (List.map (rowL 1 rowI) v.1.2.kids), .own 2 (List.map row_Tree v.1.2.tree)], .cells [.ptr 4 0], .arr w.1 1 (List.map (rowA rowI) w.2.1), .cells [.ms 6 w.1 1 0 w.2.2], c8, .loop 0 none 131 81 E [38, 39] A81_0 B81_0, .cells [.yld 9], .cells [.p (iv v.2)], .cells [.fn 65 [.ptr 12 0, .ptr 11 0, .ptr 10 0]]]) := fun E c0 c2 c8 h5 h7 h12 h13 hE => by
      have q := Tab.spec65 h5 h7 h12 h13 (ltVis_iff.1 hE) n a1 a3 n [c0, .cells [.p (iv a1.States), .p (.sl none 1 (List.map rowI a1.Final)), .p (.sl none 3 (List.map row_Rule a1.Rules))], c2, .cells [.p (iv a3.Relabel), .p (iv a3.Remove), .p (iv a3.Insert)], .cells [.p (iv a1.States), .p (.sl none 1 (List.map rowI a1.Final)), .p (.sl none 3 (List.map row_Rule a1.Rules)), .p (iv a3.Relabel), .p (iv a3.Remove), .p (iv a3.Insert), .p (.sl none 1 (List.map rowI v1.1)), .own 1 [], .own 1 [], .own 2 []], .cells [.ptr 4 0], .dead, .cells [.nms 6 1], c8, .loop 0 none 131 81 E [38, 39] A81_0 B81_0, .cells [.yld 9], .cells [.p (iv 0)], .cells [.fn 65 [.ptr 12 0, .ptr 11 0, .ptr 10 0]]] ⟨by simp, rfl, rfl, rfl, rfl, rfl, rfl⟩ a2 ((none, (repair_table.mk a1 a3 v1.1 ([] : List (List Int)) ([] : List (List Int)) ([] : List Tree))), 0) v e_v
      have e1 : Tab.wS [c0, .cells [.p (iv a1.States), .p (.sl none 1 (List.map rowI a1.Final)), .p (.sl none 3 (List.map row_Rule a1.Rules))], c2, .cells [.p (iv a3.Relabel), .p (iv a3.Remove), .p (iv a3.Insert)], .cells [.p (iv a1.States), .p (.sl none 1 (List.map rowI a1.Final)), .p (.sl none 3 (List.map row_Rule a1.Rules)), .p (iv a3.Relabel), .p (iv a3.Remove), .p (iv a3.Insert), .p (.sl none 1 (List.map rowI v1.1)), .own 1 [], .own 1 [], .own 2 []], .cells [.ptr 4 0], .dead, .cells [.nms 6 1], c8, .loop 0 none 131 81 E [38, 39] A81_0 B81_0, .cells [.yld 9], .cells [.p (iv 0)], .cells [.fn 65 [.ptr 12 0, .ptr 11 0, .ptr 10 0]]] v = [c0, .cells [.p (iv a1.States), .p (.sl none 1 (List.map rowI a1.Final)), .p (.sl none 3 (List.map row_Rule a1.Rules))], c2, .cells [.p (iv a3.Relabel), .p (iv a3.Remove), .p (iv a3.Insert)], .cells [.p (iv v.1.2.a.States), .p (.sl none 1 (List.map rowI v.1.2.a.Final)), .p (.sl none 3 (List.map row_Rule v.1.2.a.Rules)), .p (iv v.1.2.w.Relabel), .p (iv v.1.2.w.Remove), .p (iv v.1.2.w.Insert), .p (.sl none 1 (List.map rowI v.1.2.size)), .own 1 (List.map (rowL 1 rowI) v.1.2.cost), .own 1 (List.map (rowL 1 rowI) v.1.2.kids), .own 2 (List.map row_Tree v.1.2.tree)], .cells [.ptr 4 0], .arr w.1 1 (List.map (rowA rowI) w.2.1), .cells [.ms 6 w.1 1 0 w.2.2], c8, .loop 0 none 131 81 E [38, 39] A81_0 B81_0, .cells [.yld 9], .cells [.p (iv v.2)], .cells [.fn 65 [.ptr 12 0, .ptr 11 0, .ptr 10 0]]] := by unfold Tab.wS Tab.zS Tab.yS; rw [e_w]; rfl
      rw [e1] at q; exact q
    refine Sat.callrange ?_
    rw [call64]
    conv => arg 1; arg 7; unfold S22.c64 Try.f64; simp only [Option.getD_some]
    simp only [go_sem, q, ltVis, List.all_cons, List.all_nil]
    refine Sat.ok ?_
    try simp only [go_sem, rangeK_ok, atLoop_some, pendK_none]
    try simp only [go_sem, e_v1c, c1b]
    injection h with h; subst h
    exact Sat.ok hQ
  · have h := iteF h c1
    have c1b : (v1.2 != 0) = true := bneT c1
    cases h

def repair_table_best_p (a0 : repair_table) : Option (Int × Int) :=
  rangeL a0.a.Final ((-1), 0) (fun k1 i1 x1 (s1 : Int × Int) n1 =>
    (idx a0.size x1).bind fun v1 =>
    if 0 < v1 then
      if s1.1 < 0 then
        (idx a0.cost (w64 ((a0.cost.length : Int) - 1))).bind fun v2 =>
        (idx v2 x1).bind fun v3 =>
        n1 (x1, v3)
      else
        (idx a0.cost (w64 ((a0.cost.length : Int) - 1))).bind fun v4 =>
        (idx v4 x1).bind fun v5 =>
        if v5 < s1.2 then
          n1 (x1, v5)
        else
          n1 (s1.1, s1.2)
    else
      n1 (s1.1, s1.2)) fun s1 =>
  some (s1.1, s1.2)
theorem spec82_p (σ : List AObj) (a0 : repair_table) (r : Int × Int) (h : repair_table_best_p a0 = some r) :
    call Try.prog T H (.fn 82) [.p (.pp [iv a0.a.States, .sl none 1 (List.map rowI a0.a.Final), .sl none 3 (List.map row_Rule a0.a.Rules), iv a0.w.Relabel, iv a0.w.Remove, iv a0.w.Insert, .sl none 1 (List.map rowI a0.size), .sl none 1 (List.map (rowL 1 rowI) a0.cost), .sl none 1 (List.map (rowL 1 rowI) a0.kids), .sl none 2 (List.map row_Tree a0.tree)])] σ = some (.ret (.p (.tup [iv r.1, iv r.2])), σ) := by
  refine Sat.fn fun Q hQ => ?_
  unfold repair_table_best_p at h
  rw [call82]
  conv => arg 1; arg 7; unfold S22.c82 Try.f82; simp only [Option.getD_some]
  simp only [go_sem]
  refine run_rangeL (c := L82_0) (live := [0, 4, 5, 12, 13, 14]) (by simp only [go_sem]) (M := fun i1 (s1 : Int × Int) => [(0, .p (.pp [iv a0.a.States, .sl none 1 (List.map rowI a0.a.Final), .sl none 3 (List.map row_Rule a0.a.Rules), iv a0.w.Relabel, iv a0.w.Remove, iv a0.w.Insert, .sl none 1 (List.map rowI a0.size), .sl none 1 (List.map (rowL 1 rowI) a0.cost), .sl none 1 (List.map (rowL 1 rowI) a0.kids), .sl none 2 (List.map row_Tree a0.tree)])), (4, .p (iv s1.1)), (5, .p (iv s1.2)), (12, .p (.sl none 1 (List.map rowI a0.a.Final))), (13, .p (iv (a0.a.Final.length : Int))), (14, .p (iv (i1 : Int)))]) (Z := fun i1 (s1 : Int × Int) => σ) (N := fun (s1 : Int × Int) => ⟨[(4, .p (iv s1.1)), (5, .p (iv s1.2))], σ, [], none, false⟩) h rfl rfl (fun _ _ => rfl) ?_ ?_ ?_
  · intro s1 h
    try dsimp only at h ⊢
    simp only [go_sem]
    injection h with h; subst h
    exact Sat.ok hQ
  · intro K1 s1 hb1 he1
    try dsimp only
    conv => arg 1; arg 7; unfold L82_0 loopAt S22.c82 Try.f82; simp only [loopIn, Option.getD_some, if_true]
    simp only [go_sem, he1]
    exact hb1
  · intro K1 k1 i1 x1 s1 n1 hR1 hE1 hb1 hx1 hi1 hw1 ih1 h
    try dsimp only at h ⊢
    conv => arg 1; arg 7; unfold L82_0 loopAt S22.c82 Try.f82; simp only [loopIn, Option.getD_some, if_true]
    obtain ⟨v1, e_v1, h⟩ := ob h
    obtain ⟨e_v1a, e_v1b⟩ := idx_some e_v1
    by_cases c1 : 0 < v1
    · have h := iteT h c1
      by_cases c2 : s1.1 < 0
      · have h := iteT h c2
        obtain ⟨v2, e_v2, h⟩ := ob h
        obtain ⟨e_v2a, e_v2b⟩ := idx_some e_v2
        obtain ⟨v3, e_v3, h⟩ := ob h
        obtain ⟨e_v3a, e_v3b⟩ := idx_some e_v3
        simp only [go_sem, hx1, hi1, hw1, e_v1a, e_v1b, c1, c2, e_v2a, e_v2b, e_v3a, e_v3b, hR1, hE1]
        exact ih1 (x1, v3) h
      · have h := iteF h c2
        obtain ⟨v4, e_v4, h⟩ := ob h
        obtain ⟨e_v4a, e_v4b⟩ := idx_some e_v4
        obtain ⟨v5, e_v5, h⟩ := ob h
        obtain ⟨e_v5a, e_v5b⟩ := idx_some e_v5
        by_cases c3 : v5 < s1.2
        · have h := iteT h c3
          simp only [go_sem, hx1, hi1, hw1, e_v1a, e_v1b, c1, c2, e_v4a, e_v4b, e_v5a, e_v5b, c3, hR1, hE1]
          exact ih1 (x1, v5) h
        · have h := iteF h c3
          simp only [go_sem, hx1, hi1, hw1, e_v1a, e_v1b, c1, c2, e_v4a, e_v4b, e_v5a, e_v5b, c3, hR1, hE1]
          exact ih1 (s1.1, s1.2) h
    · have h := iteF h c1
      simp only [go_sem, hx1, hi1, hw1, e_v1a, e_v1b, c1, hR1, hE1]
      exact ih1 (s1.1, s1.2) h

def repair_checked (n : Nat) (a0 : Alphabet) (a1 : Automaton) (a2 : Tree) (a3 : repair_Weights) : Option ((Option repair_table) × Int × Int × Int) :=
  (auto_Valid a0 a1).bind fun v1 =>
  if v1 = true then
    (tree_Valid n a0 a2).bind fun v2 =>
    if v2 = true then
      (repair_fits a3).bind fun v3 =>
      if v3 = true then
        (repair_tableOf n a0 a1 a2 a3).bind fun v4 =>
        if v4.2 = 0 then
          (repair_table_best_p v4.1).bind fun v5 =>
          if v5.1 < 0 then
            some ((none : Option repair_table), 0, 0, 5)
          else
            if 1099511627776 < v5.2 then
              some ((none : Option repair_table), 0, 0, 3)
            else
              some ((some v4.1), v5.1, v5.2, 0)
        else
          some ((none : Option repair_table), 0, 0, v4.2)
      else
        some ((none : Option repair_table), 0, 0, 6)
    else
      some ((none : Option repair_table), 0, 0, 1)
  else
    some ((none : Option repair_table), 0, 0, 1)
theorem spec52 (n : Nat) (a0 : Alphabet) (a1 : Automaton) (a2 : Tree) (a3 : repair_Weights) (r : (Option repair_table) × Int × Int × Int) (h : repair_checked n a0 a1 a2 a3 = some r) :
    call Try.prog T H (.fn 52) [.p (.agg [.sl none 1 (List.map rowI a0.Ranks)]), .p (.agg [iv a1.States, .sl none 1 (List.map rowI a1.Final), .sl none 3 (List.map row_Rule a1.Rules)]), .p (.agg [iv a2.Sym, .sl none 2 (List.map row_Tree a2.Kids)]), .p (.agg [iv a3.Relabel, iv a3.Remove, iv a3.Insert])] [] = some (.ret (.p (.tup [oP (fun (x : repair_table) => [iv x.a.States, .sl none 1 (List.map rowI x.a.Final), .sl none 3 (List.map row_Rule x.a.Rules), iv x.w.Relabel, iv x.w.Remove, iv x.w.Insert, .sl none 1 (List.map rowI x.size), .sl none 1 (List.map (rowL 1 rowI) x.cost), .sl none 1 (List.map (rowL 1 rowI) x.kids), .sl none 2 (List.map row_Tree x.tree)]) r.1, iv r.2.1, iv r.2.2.1, iv r.2.2.2])), []) := by
  refine Sat.fn fun Q hQ => ?_
  unfold repair_checked at h
  rw [call52]
  conv => arg 1; arg 7; unfold S22.c52 Try.f52; simp only [Option.getD_some]
  obtain ⟨v1, e_v1, h⟩ := ob h
  have e_v1c : call Try.prog T H (.fn 28) [.p (.agg [.sl none 1 (List.map rowI a0.Ranks)]), .p (.agg [iv a1.States, .sl none 1 (List.map rowI a1.Final), .sl none 3 (List.map row_Rule a1.Rules)])] [] = some (.ret (.p (bv v1)), []) := spec28 a0 a1 v1 e_v1
  by_cases c1 : v1 = true
  · have h := iteT h c1
    obtain ⟨v2, e_v2, h⟩ := ob h
    have e_v2c : call Try.prog T H (.fn 29) [.p (.agg [.sl none 1 (List.map rowI a0.Ranks)]), .p (.agg [iv a2.Sym, .sl none 2 (List.map row_Tree a2.Kids)])] [] = some (.ret (.p (bv v2)), []) := spec29 n a0 a2 v2 e_v2
    by_cases c2 : v2 = true
    · have h := iteT h c2
      obtain ⟨v3, e_v3, h⟩ := ob h
      have e_v3c : call Try.prog T H (.fn 45) [.p (.agg [iv a3.Relabel, iv a3.Remove, iv a3.Insert])] [] = some (.ret (.p (bv v3)), []) := spec45 a3 v3 e_v3
      by_cases c3 : v3 = true
      · have h := iteT h c3
        obtain ⟨v4, e_v4, h⟩ := ob h
        have e_v4c : call Try.prog T H (.fn 81) [.p (.agg [.sl none 1 (List.map rowI a0.Ranks)]), .p (.agg [iv a1.States, .sl none 1 (List.map rowI a1.Final), .sl none 3 (List.map row_Rule a1.Rules)]), .p (.agg [iv a2.Sym, .sl none 2 (List.map row_Tree a2.Kids)]), .p (.agg [iv a3.Relabel, iv a3.Remove, iv a3.Insert])] [] = some (.ret (.p (.tup [.pp [iv v4.1.a.States, .sl none 1 (List.map rowI v4.1.a.Final), .sl none 3 (List.map row_Rule v4.1.a.Rules), iv v4.1.w.Relabel, iv v4.1.w.Remove, iv v4.1.w.Insert, .sl none 1 (List.map rowI v4.1.size), .sl none 1 (List.map (rowL 1 rowI) v4.1.cost), .sl none 1 (List.map (rowL 1 rowI) v4.1.kids), .sl none 2 (List.map row_Tree v4.1.tree)], iv v4.2])), []) := spec81 n a0 a1 a2 a3 v4 e_v4
        by_cases c4 : v4.2 = 0
        · have h := iteT h c4
          have c4b : (v4.2 != 0) = false := bneF c4
          obtain ⟨v5, e_v5, h⟩ := ob h
          have e_v5c : call Try.prog T H (.fn 82) [.p (.pp [iv v4.1.a.States, .sl none 1 (List.map rowI v4.1.a.Final), .sl none 3 (List.map row_Rule v4.1.a.Rules), iv v4.1.w.Relabel, iv v4.1.w.Remove, iv v4.1.w.Insert, .sl none 1 (List.map rowI v4.1.size), .sl none 1 (List.map (rowL 1 rowI) v4.1.cost), .sl none 1 (List.map (rowL 1 rowI) v4.1.kids), .sl none 2 (List.map row_Tree v4.1.tree)])] [.cells [.p (.sl none 1 (List.map rowI a0.Ranks))], .cells [.p (iv a1.States), .p (.sl none 1 (List.map rowI a1.Final)), .p (.sl none 3 (List.map row_Rule a1.Rules))], .cells [.p (iv a2.Sym), .p (.sl none 2 (List.map row_Tree a2.Kids))], .cells [.p (iv a3.Relabel), .p (iv a3.Remove), .p (iv a3.Insert)]] = some (.ret (.p (.tup [iv v5.1, iv v5.2])), [.cells [.p (.sl none 1 (List.map rowI a0.Ranks))], .cells [.p (iv a1.States), .p (.sl none 1 (List.map rowI a1.Final)), .p (.sl none 3 (List.map row_Rule a1.Rules))], .cells [.p (iv a2.Sym), .p (.sl none 2 (List.map row_Tree a2.Kids))], .cells [.p (iv a3.Relabel), .p (iv a3.Remove), .p (iv a3.Insert)]]) := by have q := spec82_p [.cells [.p (.sl none 1 (List.map rowI a0.Ranks))], .cells [.p (iv a1.States), .p (.sl none 1 (List.map rowI a1.Final)), .p (.sl none 3 (List.map row_Rule a1.Rules))], .cells [.p (iv a2.Sym), .p (.sl none 2 (List.map row_Tree a2.Kids))], .cells [.p (iv a3.Relabel), .p (iv a3.Remove), .p (iv a3.Insert)]] v4.1 v5 e_v5; first | (simp only [go_sem] at q ⊢; exact q) | exact q
          by_cases c5 : v5.1 < 0
          · have h := iteT h c5
            simp only [go_sem, e_v1c, c1, e_v2c, c2, e_v3c, c3, e_v4c, c4b, e_v5c, c5]
            injection h with h; subst h
            exact Sat.ok hQ
          · have h := iteF h c5
            by_cases c6 : 1099511627776 < v5.2
            · have h := iteT h c6
              simp only [go_sem, e_v1c, c1, e_v2c, c2, e_v3c, c3, e_v4c, c4b, e_v5c, c5, c6]
              injection h with h; subst h
              exact Sat.ok hQ
            · have h := iteF h c6
              simp only [go_sem, e_v1c, c1, e_v2c, c2, e_v3c, c3, e_v4c, c4b, e_v5c, c5, c6]
              injection h with h; subst h
              exact Sat.ok hQ
        · have h := iteF h c4
          have c4b : (v4.2 != 0) = true := bneT c4
          simp only [go_sem, e_v1c, c1, e_v2c, c2, e_v3c, c3, e_v4c, c4b]
          injection h with h; subst h
          exact Sat.ok hQ
      · have h := iteF h c3
        have c3 := eq_false_of_ne_true c3
        simp only [go_sem, e_v1c, c1, e_v2c, c2, e_v3c, c3]
        injection h with h; subst h
        exact Sat.ok hQ
    · have h := iteF h c2
      have c2 := eq_false_of_ne_true c2
      simp only [go_sem, e_v1c, c1, e_v2c, c2]
      injection h with h; subst h
      exact Sat.ok hQ
  · have h := iteF h c1
    have c1 := eq_false_of_ne_true c1
    simp only [go_sem, e_v1c, c1]
    injection h with h; subst h
    exact Sat.ok hQ

def repair_Cost (n : Nat) (a0 : Alphabet) (a1 : Automaton) (a2 : Tree) (a3 : repair_Weights) : Option (Int × Int) :=
  (repair_checked n a0 a1 a2 a3).bind fun v1 =>
  some (v1.2.2.1, v1.2.2.2)
theorem spec20 (n : Nat) (a0 : Alphabet) (a1 : Automaton) (a2 : Tree) (a3 : repair_Weights) (r : Int × Int) (h : repair_Cost n a0 a1 a2 a3 = some r) :
    call Try.prog T H (.fn 20) [.p (.agg [.sl none 1 (List.map rowI a0.Ranks)]), .p (.agg [iv a1.States, .sl none 1 (List.map rowI a1.Final), .sl none 3 (List.map row_Rule a1.Rules)]), .p (.agg [iv a2.Sym, .sl none 2 (List.map row_Tree a2.Kids)]), .p (.agg [iv a3.Relabel, iv a3.Remove, iv a3.Insert])] [] = some (.ret (.p (.tup [iv r.1, iv r.2])), []) := by
  refine Sat.fn fun Q hQ => ?_
  unfold repair_Cost at h
  rw [call20]
  conv => arg 1; arg 7; unfold S22.c20 Try.f20; simp only [Option.getD_some]
  obtain ⟨v1, e_v1, h⟩ := ob h
  have e_v1c : call Try.prog T H (.fn 52) [.p (.agg [.sl none 1 (List.map rowI a0.Ranks)]), .p (.agg [iv a1.States, .sl none 1 (List.map rowI a1.Final), .sl none 3 (List.map row_Rule a1.Rules)]), .p (.agg [iv a2.Sym, .sl none 2 (List.map row_Tree a2.Kids)]), .p (.agg [iv a3.Relabel, iv a3.Remove, iv a3.Insert])] [] = some (.ret (.p (.tup [oP (fun (x : repair_table) => [iv x.a.States, .sl none 1 (List.map rowI x.a.Final), .sl none 3 (List.map row_Rule x.a.Rules), iv x.w.Relabel, iv x.w.Remove, iv x.w.Insert, .sl none 1 (List.map rowI x.size), .sl none 1 (List.map (rowL 1 rowI) x.cost), .sl none 1 (List.map (rowL 1 rowI) x.kids), .sl none 2 (List.map row_Tree x.tree)]) v1.1, iv v1.2.1, iv v1.2.2.1, iv v1.2.2.2])), []) := spec52 n a0 a1 a2 a3 v1 e_v1
  simp only [go_sem, e_v1c]
  injection h with h; subst h
  exact Sat.ok hQ

def law22_RepairDistances (n : Nat) (a0 : Alphabet) (a1 : Automaton) (a2 : Tree) (a3 : Tree) (a4 : ref22_Weights) : Option Bool :=
  (law22_few n a0 a1 [a2, a3]).bind fun v1 =>
  if v1 = true then
    (law22_given a4).bind fun v2 =>
    (repair_Distance n a0 a2 a3 v2).bind fun v3 =>
    (ref22_Distance n a0 a2 a3 a4).bind fun v4 =>
    if v3.1 = v4.1 then
      if v3.2 = v4.2 then
        (auto_Accepts n a0 a1 a3).bind fun v5 =>
        (repair_Cost n a0 a1 a2 v2).bind fun v6 =>
        if v3.2 = 0 then
          if v5.2 = 0 then
            if v5.1 = true then
              if v6.2 = 0 then
                if v6.1 ≤ v3.1 then
                  (law22_awake n).bind fun v7 =>
                  some v7
                else
                  some false
              else
                some false
            else
              (law22_awake n).bind fun v8 =>
              some v8
          else
            (law22_awake n).bind fun v9 =>
            some v9
        else
          (law22_awake n).bind fun v10 =>
          some v10
      else
        some false
    else
      some false
  else
    (law22_awake n).bind fun v11 =>
    some v11
theorem spec5 (n : Nat) (a0 : Alphabet) (a1 : Automaton) (a2 : Tree) (a3 : Tree) (a4 : ref22_Weights) (r : Bool) (h : law22_RepairDistances n a0 a1 a2 a3 a4 = some r) :
    call Try.prog T H (.fn 5) [.p (.agg [.sl none 1 (List.map rowI a0.Ranks)]), .p (.agg [iv a1.States, .sl none 1 (List.map rowI a1.Final), .sl none 3 (List.map row_Rule a1.Rules)]), .p (.agg [iv a2.Sym, .sl none 2 (List.map row_Tree a2.Kids)]), .p (.agg [iv a3.Sym, .sl none 2 (List.map row_Tree a3.Kids)]), .p (.agg [iv a4.Relabel, iv a4.Remove, iv a4.Insert])] [] = some (.ret (.p (bv r)), []) := by
  refine Sat.fn fun Q hQ => ?_
  unfold law22_RepairDistances at h
  rw [call5]
  conv => arg 1; arg 7; unfold S22.c5 Try.f5; simp only [Option.getD_some]
  obtain ⟨v1, e_v1, h⟩ := ob h
  have e_v1c : call Try.prog T H (.fn 8) [.p (.agg [.sl none 1 (List.map rowI a0.Ranks)]), .p (.agg [iv a1.States, .sl none 1 (List.map rowI a1.Final), .sl none 3 (List.map row_Rule a1.Rules)]), .p (.sl none 2 [[iv a2.Sym, .sl none 2 (List.map row_Tree a2.Kids)], [iv a3.Sym, .sl none 2 (List.map row_Tree a3.Kids)]])] [] = some (.ret (.p (bv v1)), []) := by have q := spec8 n a0 a1 [a2, a3] v1 e_v1; simp only [List.map_cons, List.map_nil, row_Tree_eq] at q ⊢; exact q
  by_cases c1 : v1 = true
  · have h := iteT h c1
    obtain ⟨v2, e_v2, h⟩ := ob h
    have e_v2c : call Try.prog T H (.fn 17) [.p (.agg [iv a4.Relabel, iv a4.Remove, iv a4.Insert])] [] = some (.ret (.p (.agg [iv v2.Relabel, iv v2.Remove, iv v2.Insert])), []) := spec17 a4 v2 e_v2
    obtain ⟨v3, e_v3, h⟩ := ob h
    have e_v3c : call Try.prog T H (.fn 16) [.p (.agg [.sl none 1 (List.map rowI a0.Ranks)]), .p (.agg [iv a2.Sym, .sl none 2 (List.map row_Tree a2.Kids)]), .p (.agg [iv a3.Sym, .sl none 2 (List.map row_Tree a3.Kids)]), .p (.agg [iv v2.Relabel, iv v2.Remove, iv v2.Insert])] [] = some (.ret (.p (.tup [iv v3.1, iv v3.2])), []) := spec16 n a0 a2 a3 v2 v3 e_v3
    obtain ⟨v4, e_v4, h⟩ := ob h
    have e_v4c : call Try.prog T H (.fn 18) [.p (.agg [.sl none 1 (List.map rowI a0.Ranks)]), .p (.agg [iv a2.Sym, .sl none 2 (List.map row_Tree a2.Kids)]), .p (.agg [iv a3.Sym, .sl none 2 (List.map row_Tree a3.Kids)]), .p (.agg [iv a4.Relabel, iv a4.Remove, iv a4.Insert])] [] = some (.ret (.p (.tup [iv v4.1, iv v4.2])), []) := spec18 n a0 a2 a3 a4 v4 e_v4
    by_cases c2 : v3.1 = v4.1
    · have h := iteT h c2
      have c2b : (v3.1 != v4.1) = false := bneF c2
      by_cases c3 : v3.2 = v4.2
      · have h := iteT h c3
        have c3b : (v3.2 != v4.2) = false := bneF c3
        obtain ⟨v5, e_v5, h⟩ := ob h
        have e_v5c : call Try.prog T H (.fn 19) [.p (.agg [.sl none 1 (List.map rowI a0.Ranks)]), .p (.agg [iv a1.States, .sl none 1 (List.map rowI a1.Final), .sl none 3 (List.map row_Rule a1.Rules)]), .p (.agg [iv a3.Sym, .sl none 2 (List.map row_Tree a3.Kids)])] [] = some (.ret (.p (.tup [bv v5.1, iv v5.2])), []) := spec19 n a0 a1 a3 v5 e_v5
        obtain ⟨v6, e_v6, h⟩ := ob h
        have e_v6c : call Try.prog T H (.fn 20) [.p (.agg [.sl none 1 (List.map rowI a0.Ranks)]), .p (.agg [iv a1.States, .sl none 1 (List.map rowI a1.Final), .sl none 3 (List.map row_Rule a1.Rules)]), .p (.agg [iv a2.Sym, .sl none 2 (List.map row_Tree a2.Kids)]), .p (.agg [iv v2.Relabel, iv v2.Remove, iv v2.Insert])] [] = some (.ret (.p (.tup [iv v6.1, iv v6.2])), []) := spec20 n a0 a1 a2 v2 v6 e_v6
        by_cases c4 : v3.2 = 0
        · have h := iteT h c4
          have c4b : (v3.2 != 0) = false := bneF c4
          by_cases c5 : v5.2 = 0
          · have h := iteT h c5
            have c5b : (v5.2 != 0) = false := bneF c5
            by_cases c6 : v5.1 = true
            · have h := iteT h c6
              by_cases c7 : v6.2 = 0
              · have h := iteT h c7
                have c7b : (v6.2 == 0) = true := beqT c7
                by_cases c8 : v6.1 ≤ v3.1
                · have h := iteT h c8
                  obtain ⟨v7, e_v7, h⟩ := ob h
                  have e_v7c : call Try.prog T H (.fn 9) [] [] = some (.ret (.p (bv v7)), []) := spec9 n v7 e_v7
                  simp only [go_sem, e_v1c, c1, e_v2c, e_v3c, e_v4c, c2b, c3b, e_v5c, e_v6c, c4b, c5b, c6, c7b, c8, e_v7c]
                  injection h with h; subst h
                  exact Sat.ok hQ
                · have h := iteF h c8
                  simp only [go_sem, e_v1c, c1, e_v2c, e_v3c, e_v4c, c2b, c3b, e_v5c, e_v6c, c4b, c5b, c6, c7b, c8]
                  injection h with h; subst h
                  exact Sat.ok hQ
              · have h := iteF h c7
                have c7b : (v6.2 == 0) = false := beqF c7
                simp only [go_sem, e_v1c, c1, e_v2c, e_v3c, e_v4c, c2b, c3b, e_v5c, e_v6c, c4b, c5b, c6, c7b]
                injection h with h; subst h
                exact Sat.ok hQ
            · have h := iteF h c6
              have c6 := eq_false_of_ne_true c6
              obtain ⟨v8, e_v8, h⟩ := ob h
              have e_v8c : call Try.prog T H (.fn 9) [] [] = some (.ret (.p (bv v8)), []) := spec9 n v8 e_v8
              simp only [go_sem, e_v1c, c1, e_v2c, e_v3c, e_v4c, c2b, c3b, e_v5c, e_v6c, c4b, c5b, c6, e_v8c]
              injection h with h; subst h
              exact Sat.ok hQ
          · have h := iteF h c5
            have c5b : (v5.2 != 0) = true := bneT c5
            obtain ⟨v9, e_v9, h⟩ := ob h
            have e_v9c : call Try.prog T H (.fn 9) [] [] = some (.ret (.p (bv v9)), []) := spec9 n v9 e_v9
            simp only [go_sem, e_v1c, c1, e_v2c, e_v3c, e_v4c, c2b, c3b, e_v5c, e_v6c, c4b, c5b, e_v9c]
            injection h with h; subst h
            exact Sat.ok hQ
        · have h := iteF h c4
          have c4b : (v3.2 != 0) = true := bneT c4
          obtain ⟨v10, e_v10, h⟩ := ob h
          have e_v10c : call Try.prog T H (.fn 9) [] [] = some (.ret (.p (bv v10)), []) := spec9 n v10 e_v10
          simp only [go_sem, e_v1c, c1, e_v2c, e_v3c, e_v4c, c2b, c3b, e_v5c, e_v6c, c4b, e_v10c]
          injection h with h; subst h
          exact Sat.ok hQ
      · have h := iteF h c3
        have c3b : (v3.2 != v4.2) = true := bneT c3
        simp only [go_sem, e_v1c, c1, e_v2c, e_v3c, e_v4c, c2b, c3b]
        injection h with h; subst h
        exact Sat.ok hQ
    · have h := iteF h c2
      have c2b : (v3.1 != v4.1) = true := bneT c2
      simp only [go_sem, e_v1c, c1, e_v2c, e_v3c, e_v4c, c2b]
      injection h with h; subst h
      exact Sat.ok hQ
  · have h := iteF h c1
    have c1 := eq_false_of_ne_true c1
    obtain ⟨v11, e_v11, h⟩ := ob h
    have e_v11c : call Try.prog T H (.fn 9) [] [] = some (.ret (.p (bv v11)), []) := spec9 n v11 e_v11
    simp only [go_sem, e_v1c, c1, e_v11c]
    injection h with h; subst h
    exact Sat.ok hQ

end Go.AM.S22

namespace Go.AM.S22
open Go Go.Proofs Go.AM
set_option linter.unusedVariables false
set_option maxRecDepth 100000
set_option maxHeartbeats 4000000
namespace Tab
open Go Go.Proofs Go.AM Go.AM.S22
def pl : PS → List Int
  | none => []
  | some (_, o, l) => o.take l
def pk : PS → Prop
  | none => True
  | some (_, o, l) => l ≤ o.length
structure TB (a : Automaton) (v : List Int) (R M I : Int) (tb : repair_table) (c : Nat) : Prop where
  a : tb.a = a
  w : tb.w = ⟨R, M, I⟩
  size : tb.size = v
  cost : tb.cost.length = c
  kids : tb.kids.length = c
  tree : tb.tree.length = c
theorem snoc_get {α : Type} {l : List α} {x : α} {c : Nat} (h : l.length = c) : (l ++ [x])[c]? = some x := by
  rw [List.getElem?_append_right (by omega), h, Nat.sub_self]; rfl
section
variable {a : Automaton} {v : List Int} {R M I : Int} {n : Nat}
theorem stp_eq (ha : OKa a) (hv : ZV a.States.toNat v) (w : WOk R M I) {u : Tree} (hd : tdT u < n) (hs : tsT u ≤ 80) {p : PS} (hp : pk p) {tb : repair_table} {c : Nat} (ht : TB a v R M I tb c) (hc : c ≤ 500)
    {base roots : List Int} (hb : base.length ≤ 500) (he : pl p = base ++ roots) (hk : KR (cosT a v R M I) tb.cost roots u.Kids) :
    ∃ q, stp n a ⟨R, M, I⟩ (c : Int) u (p, tb) = some (q, ⟨tb.a, tb.w, tb.size, tb.cost ++ [cosT a v R M I u], tb.kids ++ [roots], tb.tree ++ [u]⟩) ∧ pk q ∧ q ≠ none ∧ pl q = base ++ [(c : Int)] := by
  have hst := ha.st
  have hlk := tlen u.Kids
  have hts := tsT_eq u
  have hkl := hk.1
  have hmk : mkz 8 a.States a.States (0 : Int) = some (List.replicate a.States.toNat 0) := mk8_eq ha
  have hsz := tree_Size_eq n u hd (by omega)
  have hcv := cosT_CV hv w u
  have hall : allM 0 a.States.toNat (cosT a v R M I u) = some (cosT a v R M I u) := by
    unfold allM
    rw [if_pos (by rw [hcv.len]; omega), List.drop_zero, List.take_of_length_le (by rw [hcv.len]; exact Nat.le_refl _)]
  have hrow : ∀ {Rr : Type} (K : List Int → Option Rr), _ := fun {Rr} K => rows_eq (Rr := Rr) ha (C := cosT a v R M I) (tb := ⟨tb.a, tb.w, tb.size, tb.cost, tb.kids ++ [roots], tb.tree ++ [u]⟩) (u := u) (roots := roots) (c := c) (n := n) hk (fun t _ => cosT_CV hv w t) (snoc_get ht.tree) (snoc_get ht.kids) hs (by rw [ht.size]; exact hv) (by rw [ht.w]; exact w.r) (by rw [ht.w]; exact w.m) (by rw [ht.w]; exact w.i) K
  have hw : tb.w.Remove = M := by rw [ht.w]
  have hcos : rowC a tb.size tb.w.Relabel tb.w.Remove tb.w.Insert u.Sym (tsT u) (u.Kids.map (cosT a v R M I)) = cosT a v R M I u := by
    rw [cosT_eq, cosL_map, ht.size, ht.w]
  rw [hw] at hcos
  dsimp only at hrow
  rcases p with _ | ⟨g, o, l⟩
  · have h0 : base = [] ∧ roots = [] := List.append_eq_nil_iff.1 he.symm
    obtain ⟨rfl, rfl⟩ := h0
    have hk0 : u.Kids.length = 0 := hkl.symm
    have e0 : tabRow0 n a ⟨R, M, I⟩ tb (c : Int) u = some (([(c : Int)], 1), ⟨tb.a, tb.w, tb.size, tb.cost ++ [cosT a v R M I u], tb.kids ++ [[]], tb.tree ++ [u]⟩) := by
     unfold tabRow0
     rw [app_ok (by simp; have := ht.tree; omega), Option.bind_some, hk0]
     have hcut : cutM 0 (w64 (0 - ((0 : Nat) : Int))) = some 0 := rfl
     rw [hcut, Option.bind_some, app_ok (by simp; have := ht.kids; omega), Option.bind_some]
     have happ : appM 8 0 ([] : List Int) [(c : Int)] = some [(c : Int)] := rfl
     rw [happ, Option.bind_some, hmk, Option.bind_some, hsz, Option.bind_some]
     have := hrow fun s2 => (allM 0 ((a.States).toNat) s2).bind fun v7 => (app 24 tb.cost [v7]).bind fun v8 => some (([(c : Int)], 1), (repair_table.mk tb.a tb.w tb.size v8 (tb.kids ++ [[]]) (tb.tree ++ [u])))
     rw [hw] at this
     dsimp only at this ⊢
     rw [this, hcos, hall, Option.bind_some, app_ok (by simp; have := ht.cost; omega)]; rfl
    exact ⟨_, by unfold stp; simp only []; rw [e0]; rfl, by simp [pk], by simp, by simp [pl]⟩
  · simp only [pk] at hp
    simp only [pl] at he
    have hlen := congrArg List.length he
    rw [List.length_take, List.length_append] at hlen
    have hl : l = base.length + u.Kids.length := by omega
    have htk : o.take base.length = base := by
      have : (o.take l).take base.length = base := by rw [he, List.take_left']; rfl
      rw [List.take_take, show min base.length l = base.length by omega] at this
      exact this
    have hcl : slices_Clone_q o (l - base.length) base.length = some roots := by
      unfold slices_Clone_q
      rw [if_pos (by omega)]
      have : (o.take l).drop base.length = roots := by rw [he, List.drop_left']; rfl
      rw [List.drop_take] at this
      rw [this]
    have e0 : tabRow n a ⟨R, M, I⟩ tb (c : Int) u o l = some ((base ++ [(c : Int)], base.length + 1), ⟨tb.a, tb.w, tb.size, tb.cost ++ [cosT a v R M I u], tb.kids ++ [roots], tb.tree ++ [u]⟩) := by
     unfold tabRow
     rw [app_ok (by simp; have := ht.tree; omega), Option.bind_some, cut_eq hl hb (by omega), Option.bind_some, hcl, Option.bind_some, app_ok (by simp; have := ht.kids; omega), Option.bind_some]
     have happ : appM 8 base.length o [(c : Int)] = some (base ++ [(c : Int)]) := by
       unfold appM
       rw [if_pos (by simp; omega), htk]
     rw [happ, Option.bind_some, hmk, Option.bind_some, hsz, Option.bind_some]
     have := hrow fun s2 => (allM 0 ((a.States).toNat) s2).bind fun v8 => (app 24 tb.cost [v8]).bind fun v9 => some ((base ++ [(c : Int)], base.length + 1), (repair_table.mk tb.a tb.w tb.size v9 (tb.kids ++ [roots]) (tb.tree ++ [u])))
     rw [hw] at this
     dsimp only at this ⊢
     rw [this, hcos, hall, Option.bind_some, app_ok (by simp; have := ht.cost; omega)]; rfl
    refine ⟨_, by unfold stp; simp only []; rw [e0]; rfl, by simp [pk], by simp, ?_⟩
    simp only [pl]
    rw [List.take_of_length_le (by simp)]
theorem walk_eq (ha : OKa a) (hv : ZV a.States.toNat v) (w : WOk R M I) : ∀ (k : Nat) (t : Tree) (p : PS) (tb : repair_table) (c : Nat), tdT t < k → tdT t < n → tsT t ≤ 80 → pk p → TB a v R M I tb c → (pl p).length + tsT t ≤ 500 → c + tsT t ≤ 500 →
    ∃ q tb', walk n a ⟨R, M, I⟩ k t ((p, tb), (c : Int)) = some ((q, tb'), ((c + tsT t : Nat) : Int)) ∧ pk q ∧ q ≠ none ∧ pl q = pl p ++ [((c + tsT t - 1 : Nat) : Int)] ∧ TB a v R M I tb' (c + tsT t) ∧ (∃ ext, tb'.cost = tb.cost ++ ext) ∧ tb'.cost[c + tsT t - 1]? = some (cosT a v R M I t) := by
  intro k
  induction k with
  | zero => intro t p tb c h; omega
  | succ k ih =>
    intro t p tb c hd hn hs hp hT hb hcb
    have hkl := tlen t.Kids
    have hts := tsT_eq t
    have htd := tdT_eq t
    rw [walk, rangeL, if_pos (by omega)]
    suffices H : ∀ (l : List Tree) (i : Nat) (p : PS) (tb : repair_table) (c : Nat) (K : TS × Int → Option (TS × Int)), (∀ x ∈ l, x ∈ t.Kids) → pk p → TB a v R M I tb c → (pl p).length + tsL l ≤ 500 → c + tsL l ≤ 500 →
        ∃ q tb' roots, rangeC (fun (_ : Nat) x1 s1 n1 => (walk n a ⟨R, M, I⟩ k x1 s1).bind fun v => n1 v) l i ((p, tb), (c : Int)) K = K ((q, tb'), ((c + tsL l : Nat) : Int)) ∧ pk q ∧ pl q = pl p ++ roots ∧ TB a v R M I tb' (c + tsL l) ∧ (∃ ext, tb'.cost = tb.cost ++ ext) ∧ KR (cosT a v R M I) tb'.cost roots l by
      obtain ⟨q, tb', roots, h1, h2, h3, h4, ⟨ext, h5⟩, h6⟩ := H t.Kids 0 p tb c _ (fun _ h => h) hp hT (by omega) (by omega)
      obtain ⟨q2, e1, e2, e3, e4⟩ := stp_eq (n := n) ha hv w (u := t) hn hs h2 h4 (by omega) (base := pl p) (by omega) h3 h6
      rw [h1]
      dsimp only
      rw [w64_eq (n := ((c + tsL t.Kids : Nat) : Int) + 1) (by omega) (by omega), w64_eq (by omega) (by omega), show ((c + tsL t.Kids : Nat) : Int) + 1 - 1 = ((c + tsL t.Kids : Nat) : Int) by omega, e1, Option.bind_some]
      refine ⟨q2, ⟨tb'.a, tb'.w, tb'.size, tb'.cost ++ [cosT a v R M I t], tb'.kids ++ [roots], tb'.tree ++ [t]⟩, ?_, e2, e3, ?_, ⟨h4.a, h4.w, h4.size, by simp [h4.cost]; omega, by simp [h4.kids]; omega, by simp [h4.tree]; omega⟩, ⟨ext ++ [cosT a v R M I t], ?_⟩, ?_⟩
      · congr 3; omega
      · rw [e4]; congr 3; omega
      · show tb'.cost ++ _ = _
        rw [h5, List.append_assoc]
      · show (tb'.cost ++ [cosT a v R M I t])[_]? = _
        exact snoc_get (by rw [h4.cost]; omega)
    intro l
    induction l with
    | nil =>
      intro i p tb c K _ hp hT _ _
      exact ⟨p, tb, [], by rw [rangeC]; simp [tsL], hp, by simp, by simpa [tsL] using hT, ⟨[], by simp⟩, rfl, fun i k t h => by simp at h⟩
    | cons x l ihl =>
      intro i p tb c K hm hp hT hb hc
      have hx := td_mem (hm x (by simp))
      have hx2 := ts_mem (hm x (by simp))
      have hx3 := tsT_eq x
      rw [tsL] at hb hc
      obtain ⟨q, tb1, e1, e2, e3, e4, e5, ⟨ext, e6⟩, e7⟩ := ih x p tb c (by omega) (by omega) (by omega) hp hT (by omega) (by omega)
      have hq : (pl q).length = (pl p).length + 1 := by rw [e4]; simp
      obtain ⟨q2, tb2, roots, f1, f2, f3, f4, ⟨ext2, f5⟩, f6⟩ := ihl (i + 1) q tb1 (c + tsT x) K (fun y hy => hm y (List.mem_cons_of_mem _ hy)) e2 e5 (by omega) (by omega)
      refine ⟨q2, tb2, ((c + tsT x - 1 : Nat) : Int) :: roots, ?_, f2, ?_, ?_, ⟨ext ++ ext2, by rw [f5, e6, List.append_assoc]⟩, by simp [f6.1], fun j k' t' hk ht => ?_⟩
      · rw [rangeC, e1]
        refine Eq.trans f1 ?_
        rw [tsL, Nat.add_assoc]
      · rw [f3, e4, List.append_assoc]; rfl
      · rw [tsL, ← Nat.add_assoc]; exact f4
      · cases j with
        | zero =>
          simp at hk ht
          subst hk; subst ht
          unfold idx
          rw [if_pos (by omega), f5]
          have := e7
          rw [show (((c + tsT x - 1 : Nat) : Int)).toNat = c + tsT x - 1 by omega, List.getElem?_append_left (List.getElem?_eq_some_iff.1 this).1]
          exact this
        | succ j => exact f6.2 j k' t' (by simpa using hk) (by simpa using ht)
/-- what tableOf computes -/
theorem tableOf_eq (ha : OKa a) (hv : ZV a.States.toNat v) (w : WOk R M I) {r : List Int} {t : Tree} (hS : empty_Sizes ⟨r⟩ a = some (v, 0)) (hd : tdT t < n) (hs : tsT t ≤ 80) :
    ∃ tb, repair_tableOf n ⟨r⟩ a t ⟨R, M, I⟩ = some (tb, 0) ∧ TB a v R M I tb (tsT t) ∧ tb.cost[tsT t - 1]? = some (cosT a v R M I t) := by
  have h1 := tsT_eq t
  obtain ⟨q, tb, e1, e2, e3, e4, e5, e6, e7⟩ := walk_eq (n := n) ha hv w n t none ⟨a, ⟨R, M, I⟩, v, [], [], []⟩ 0 hd hd hs trivial ⟨rfl, rfl, rfl, rfl, rfl, rfl⟩ (by simp [pl]; omega) (by omega)
  rw [Nat.zero_add] at e5 e7
  unfold repair_tableOf
  rw [hS, Option.bind_some, if_pos rfl]
  dsimp only
  rw [show ((0 : Nat) : Int) = 0 from rfl] at e1
  rw [e1, Option.bind_some]
  cases q with
  | none => exact absurd rfl e3
  | some q => exact ⟨tb, rfl, e5, e7⟩
end
end Tab
end Go.AM.S22

namespace Go.AM.S22
open Go Go.Proofs Go.AM
set_option linter.unusedVariables false
set_option maxRecDepth 100000
set_option maxHeartbeats 4000000
namespace Tab
open Go Go.Proofs Go.AM Go.AM.S22
theorem gz_set {v : List Int} {s q n : Int} (hs : 0 ≤ s) (hl : s < v.length) (hq : 0 ≤ q) : gz (v.set s.toNat n) q = if q = s then n else gz v q := Sz.gv_set hs hl hq
theorem min_fold {m : Nat} {R sym : Int} {kids : List (List Int)} (hk : ∀ c ∈ kids, CV m c) (hr : -1 ≤ R ∧ R ≤ 1000) {s : Int} (h0 : 0 ≤ s) : ∀ (l : List Rule) (row : List Int), CV m row → (∀ x ∈ l, 0 ≤ x.To ∧ x.To < (m : Int)) →
    gz (l.foldl (stC R sym kids) row) s ≤ gz row s ∧ ∀ x ∈ l, x.To = s → gz (l.foldl (stC R sym kids) row) s ≤ keepC R sym kids x
  | [], row, _, _ => ⟨Int.le_refl _, fun x h => by cases h⟩
  | y :: l, row, h, hto => by
    have hy := hto y (by simp)
    obtain ⟨i1, i2⟩ := min_fold hk hr h0 l _ (stC_CV hk hr h y) fun x hx => hto x (List.mem_cons_of_mem _ hx)
    have hg : gz (stC R sym kids row y) s = if s = y.To then min (gz row y.To) (keepC R sym kids y) else gz row s := gz_set hy.1 (by rw [h.len]; exact hy.2) h0
    rw [List.foldl_cons]
    rw [hg] at i1
    refine ⟨?_, fun x hx he => ?_⟩
    · refine Int.le_trans i1 ?_
      split
      · rename_i e; rw [e]; omega
      · omega
    · rcases List.mem_cons.1 hx with rfl | hx
      · refine Int.le_trans i1 ?_
        rw [if_pos he.symm]; omega
      · exact i2 x hx he
theorem derL_len {Rs : List Rule} : ∀ {ks : List Tree} {f : List Int}, Sz.DerL Rs ks f → ks.length = f.length
  | _, _, .nil => rfl
  | _, _, .cons _ h => by simp [derL_len h]
section
variable {a : Automaton} {v : List Int} {R M I : Int}
theorem ini_le (hv : ZV a.States.toNat v) (w : WOk R M I) (hL : Sz.Low a.Rules v) {u : Tree} {s : Int} (hd : Sz.Der a.Rules u s) (hs : tsT u ≤ 80) (h0 : 0 ≤ s) (h1 : s < (a.States.toNat : Int)) (size : Nat) :
    gz (v.map fun n => min (M * (size : Int) + newsC I n) FAR) s ≤ M * size + I * tsT u := by
  have hg : gz (v.map fun n => min (M * (size : Int) + newsC I n) FAR) s = min (M * (size : Int) + newsC I (gz v s)) FAR := by
    unfold gz
    rw [List.getElem?_map, List.getElem?_eq_getElem (by rw [hv.len]; omega)]; rfl
  obtain ⟨l1, l2⟩ := hL u s hd
  rw [gv_gz] at l1 l2
  have hcap : Sz.capI (tsT u) = tsT u := by unfold Sz.capI; rw [if_pos (by omega)]
  rw [hcap] at l2
  have hz := hv.gz s
  have hi := mul_bd w.i (tsT u)
  rw [hg]
  have : newsC I (gz v s) ≤ I * tsT u := by
    unfold newsC
    rw [if_neg l1]
    split
    · omega
    · rw [if_neg (by omega), Int.mul_comm]
      exact Int.mul_le_mul_of_nonneg_left l2 w.i.1
  omega
mutual
theorem low_cost (ha : OKa a) (hv : ZV a.States.toNat v) (w : WOk R M I) (hL : Sz.Low a.Rules v) : ∀ (t u : Tree) (s : Int), Sz.Der a.Rules u s → tsT u ≤ 80 → gz (cosT a v R M I t) s ≤ dT R M I t u
  | .mk b ks, u, s, hd, hs => by
    have hst := ha.st
    cases hd with
    | @mk x qs hx hk =>
      have hto := ha.to x hx
      have hd : Sz.Der a.Rules (.mk x.Sym qs) x.To := .mk hx hk
      have hini := ini_le hv w hL hd hs hto.1 (by omega) (tsT (.mk b ks))
      have hcv := cosL_CV (R := R) (M := M) (I := I) hv w ks
      obtain ⟨f1, f2⟩ := min_fold hcv w.r (sym := b) hto.1 a.Rules _ (ini_CV hv w.m w.i (tsT (.mk b ks))) fun y hy => by have := ha.to y hy; omega
      have hfl : qs.length = x.From.length := derL_len hk
      rw [dT, cosT, rowC]
      by_cases c : ks.length = qs.length ∧ (b = x.Sym ∨ 0 ≤ R)
      · rw [if_pos c]
        have h1 := f2 x hx rfl
        have h2 : keepC R b (cosL a v R M I ks) x = sumC (cosL a v R M I ks) x.From (if x.Sym = b then 0 else R) := by
          unfold keepC
          rw [if_neg (fun h => c.2.elim (fun e => h.1 e.symm) (fun e => by omega)), if_pos (by rw [cosL_map, List.length_map]; omega)]
        have hts : tsL qs ≤ 80 := by rw [tsT] at hs; omega
        have h3 := low_costL ha hv w hL ks qs x.From (if x.Sym = b then 0 else R) hk hts c.1
        rw [h2] at h1
        have h4 : (if x.Sym = b then 0 else R) = (if b = x.Sym then 0 else R) := by
          by_cases e : b = x.Sym
          · rw [if_pos e.symm, if_pos e]
          · rw [if_neg (fun h => e h.symm), if_neg e]
        rw [h4] at h1 h3
        show _ ≤ min _ (_ + dL R M I ks qs)
        exact Int.le_min.2 ⟨Int.le_trans f1 hini, Int.le_trans h1 h3⟩
      · rw [if_neg c]
        exact Int.le_trans f1 hini
theorem low_costL (ha : OKa a) (hv : ZV a.States.toNat v) (w : WOk R M I) (hL : Sz.Low a.Rules v) : ∀ (ks qs : List Tree) (f : List Int) (s : Int), Sz.DerL a.Rules qs f → tsL qs ≤ 80 → ks.length = qs.length → sumC (cosL a v R M I ks) f s ≤ s + dL R M I ks qs
  | [], [], f, s, h, _, _ => by
    cases h
    rw [cosL, sumC, dL]
    · omega
    all_goals (intros; contradiction)
  | [], _ :: _, _, _, _, _, h => by cases h
  | _ :: _, [], _, _, _, _, h => by cases h
  | k :: ks, q :: qs, f, s, h, hs, hl => by
    cases h with
    | @cons _ _ y f h1 h2 =>
      rw [tsL] at hs
      have i1 := low_cost ha hv w hL k q y h1 (by omega)
      have i2 := low_costL ha hv w hL ks qs f (min (s + gz (cosT a v R M I k) y) FAR) h2 (by omega) (by simpa using hl)
      rw [cosL, sumC, dL]
      omega
end
/-- the best final state -/
def Best (a : Automaton) (v C : List Int) (q : Int × Int) : Prop :=
  (q.1 = -1 ∧ ∀ s ∈ a.Final, ¬ 0 < gz v s) ∨ (q.1 ∈ a.Final ∧ 0 ≤ q.1 ∧ 0 < gz v q.1 ∧ q.2 = gz C q.1 ∧ ∀ s ∈ a.Final, 0 < gz v s → q.2 ≤ gz C s)
theorem best_eq (ha : OKa a) (hv : ZV a.States.toNat v) {C : List Int} (hC : CV a.States.toNat C) {tb : repair_table} {c : Nat} (hT : TB a v R M I tb c) (hc : 1 ≤ c ∧ c ≤ 500) (hl : tb.cost[c - 1]? = some C) :
    ∃ q, repair_table_best_p tb = some q ∧ Best a v C q := by
  have hst := ha.st
  have hfl := ha.fin
  have hix : idx tb.cost (w64 ((tb.cost.length : Int) - 1)) = some C := by
    rw [hT.cost, w64_eq (by omega) (by omega)]
    unfold idx
    rw [if_pos (by omega), show ((c : Int) - 1).toNat = c - 1 by omega, hl]
  have H : ∀ (body : Nat → Int → Int × Int → (Int × Int → Option (Int × Int)) → Option (Int × Int)), (∀ i x q n1, 0 ≤ x → x < a.States → body i x q n1 = if 0 < gz v x then (if q.1 < 0 then n1 (x, gz C x) else if gz C x < q.2 then n1 (x, gz C x) else n1 (q.1, q.2)) else n1 (q.1, q.2)) →
      ∀ (l p : List Int) (i : Nat) (q : Int × Int) (K : Int × Int → Option (Int × Int)), (∀ s ∈ l, 0 ≤ s ∧ s < a.States) → (∀ s ∈ p, 0 ≤ s ∧ s < a.States) →
      ((q.1 = -1 ∧ ∀ s ∈ p, ¬ 0 < gz v s) ∨ (q.1 ∈ p ∧ 0 ≤ q.1 ∧ 0 < gz v q.1 ∧ q.2 = gz C q.1 ∧ ∀ s ∈ p, 0 < gz v s → q.2 ≤ gz C s)) →
      ∃ q', rangeC body l i q K = K q' ∧ ((q'.1 = -1 ∧ ∀ s ∈ p ++ l, ¬ 0 < gz v s) ∨ (q'.1 ∈ p ++ l ∧ 0 ≤ q'.1 ∧ 0 < gz v q'.1 ∧ q'.2 = gz C q'.1 ∧ ∀ s ∈ p ++ l, 0 < gz v s → q'.2 ≤ gz C s)) := by
    intro body hb l
    induction l with
    | nil => intro p i q K _ _ h; exact ⟨q, rfl, by simpa using h⟩
    | cons x l ih =>
      intro p i q K hx hp h
      have hx0 := hx x (by simp)
      have key : ∀ q' : Int × Int, ((q'.1 = -1 ∧ ∀ s ∈ p ++ [x], ¬ 0 < gz v s) ∨ (q'.1 ∈ p ++ [x] ∧ 0 ≤ q'.1 ∧ 0 < gz v q'.1 ∧ q'.2 = gz C q'.1 ∧ ∀ s ∈ p ++ [x], 0 < gz v s → q'.2 ≤ gz C s)) → _ := fun q' hq => ih (p ++ [x]) (i + 1) q' K (fun s hs => hx s (List.mem_cons_of_mem _ hs)) (fun s hs => by
        rcases List.mem_append.1 hs with hs | hs
        · exact hp s hs
        · rw [List.mem_singleton.1 hs]; exact hx0) hq
      simp only [List.append_assoc, List.singleton_append] at key
      rw [rangeC, hb _ _ _ _ hx0.1 hx0.2]
      have memx : ∀ s, s ∈ p ++ x :: [] ↔ s ∈ p ∨ s = x := fun s => by simp
      by_cases c1 : 0 < gz v x
      · rw [if_pos c1]
        by_cases c2 : q.1 < 0
        · rw [if_pos c2]
          refine key (x, gz C x) (.inr ⟨by simp, hx0.1, c1, rfl, fun s hs h0 => ?_⟩)
          rcases (memx s).1 hs with hs | rfl
          · rcases h with ⟨_, h⟩ | ⟨_, h, _⟩
            · exact absurd h0 (h s hs)
            · omega
          · exact Int.le_refl _
        · rw [if_neg c2]
          rcases h with ⟨h, _⟩ | ⟨h1, h2, h3, h4, h5⟩
          · omega
          · by_cases c3 : gz C x < q.2
            · rw [if_pos c3]
              refine key (x, gz C x) (.inr ⟨by simp, hx0.1, c1, rfl, fun s hs h0 => ?_⟩)
              rcases (memx s).1 hs with hs | rfl
              · have := h5 s hs h0
                show gz C x ≤ _
                omega
              · exact Int.le_refl _
            · rw [if_neg c3]
              refine key (q.1, q.2) (.inr ⟨by simp [h1], h2, h3, h4, fun s hs h0 => ?_⟩)
              rcases (memx s).1 hs with hs | rfl
              · exact h5 s hs h0
              · show q.2 ≤ _; omega
      · rw [if_neg c1]
        refine key (q.1, q.2) ?_
        rcases h with ⟨h, h'⟩ | ⟨h1, h2, h3, h4, h5⟩
        · refine .inl ⟨h, fun s hs => ?_⟩
          rcases (memx s).1 hs with hs | rfl
          · exact h' s hs
          · exact c1
        · refine .inr ⟨by simp [h1], h2, h3, h4, fun s hs h0 => ?_⟩
          rcases (memx s).1 hs with hs | rfl
          · exact h5 s hs h0
          · exact absurd h0 c1
  obtain ⟨q', h1, h2⟩ := H (fun k1 x1 (s1 : Int × Int) n1 =>
        (idx tb.size x1).bind fun v1 =>
        if 0 < v1 then
          if s1.1 < 0 then
            (idx tb.cost (w64 ((tb.cost.length : Int) - 1))).bind fun v2 =>
            (idx v2 x1).bind fun v3 =>
            n1 (x1, v3)
          else
            (idx tb.cost (w64 ((tb.cost.length : Int) - 1))).bind fun v4 =>
            (idx v4 x1).bind fun v5 =>
            if v5 < s1.2 then
              n1 (x1, v5)
            else
              n1 (s1.1, s1.2)
        else
          n1 (s1.1, s1.2)) (fun i x q n1 h0 h1 => by
      have e1 : idx tb.size x = some (gz v x) := by rw [hT.size]; exact idx_get hv.len h0 (by omega)
      have e2 : idx C x = some (gz C x) := hC.idx h0 (by omega)
      rw [e1, Option.bind_some, hix]
      simp only [Option.bind_some, e2]) a.Final [] 0 (-1, 0) (fun s1 => some (s1.1, s1.2)) (fun s hs => ha.fins s hs) (fun s h => by cases h) (.inl ⟨rfl, fun s h => by cases h⟩)
  refine ⟨q', ?_, by simpa [Best] using h2⟩
  unfold repair_table_best_p
  rw [rangeL, hT.a, if_pos (by omega)]
  exact h1
end
def wB (R M I : Int) : Bool := decide (-1 ≤ R ∧ R ≤ 1000 ∧ 0 ≤ M ∧ M ≤ 1000 ∧ 0 ≤ I ∧ I ≤ 1000)
theorem fits_1 (x y : Int) : repair_fits_1 x y = some (decide (y ≤ x ∧ x ≤ 1000)) := by
  unfold repair_fits_1
  by_cases c : y ≤ x
  · rw [if_pos c]; simp [c]
  · rw [if_neg c]; simp [c]
theorem fits_eq (R M I : Int) : repair_fits ⟨R, M, I⟩ = some (wB R M I) := by
  unfold repair_fits wB
  simp only [fits_1, Option.bind_some, decide_eq_true_eq]
  by_cases c1 : -1 ≤ R ∧ R ≤ 1000
  · rw [if_pos c1]
    by_cases c2 : 0 ≤ M ∧ M ≤ 1000
    · rw [if_pos c2]
      congr 1
      by_cases c3 : 0 ≤ I ∧ I ≤ 1000
      · rw [decide_eq_true c3, decide_eq_true (by omega)]
      · rw [decide_eq_false c3, decide_eq_false (by omega)]
    · rw [if_neg c2, decide_eq_false (by omega)]
  · rw [if_neg c1, decide_eq_false (by omega)]
theorem rfits_eq (R M I : Int) : ref22_Valid ⟨R, M, I⟩ = some (wB R M I) := by
  unfold ref22_Valid wB
  dsimp only
  by_cases c1 : -1 ≤ R
  · rw [if_pos c1]
    by_cases c2 : R ≤ 1000
    · rw [if_pos c2]
      by_cases c3 : 0 ≤ M
      · rw [if_pos c3]
        by_cases c4 : M ≤ 1000
        · rw [if_pos c4]
          by_cases c5 : 0 ≤ I
          · rw [if_pos c5]
            congr 1
            by_cases c6 : I ≤ 1000
            · rw [decide_eq_true c6, decide_eq_true (by omega)]
            · rw [decide_eq_false c6, decide_eq_false (by omega)]
          · rw [if_neg c5, decide_eq_false (by omega)]
        · rw [if_neg c4, decide_eq_false (by omega)]
      · rw [if_neg c3, decide_eq_false (by omega)]
    · rw [if_neg c2, decide_eq_false (by omega)]
  · rw [if_neg c1, decide_eq_false (by omega)]
theorem wok_of {R M I : Int} (h : wB R M I = true) : WOk R M I := by
  unfold wB at h
  have := of_decide_eq_true h
  exact ⟨by omega, by omega, by omega⟩
/-- what Cost returns -/
theorem Cost_eq {n : Nat} {r : List Int} {a : Automaton} {t : Tree} {R M I : Int} (w : AW a) (hd : tdT t < n) (hw : twT t = true) (ha : aV r a = true → OKa a) (hs : tsT t ≤ 80) :
    ∃ c e, repair_Cost n ⟨r⟩ a t ⟨R, M, I⟩ = some (c, e) ∧ (aV r a = true → tvld r t = true → wB R M I = true → ∃ v, ZV a.States.toNat v ∧ Sz.Good a.Rules a.States.toNat v ∧ Sz.Low a.Rules v ∧ ∃ q, Best a v (cosT a v R M I t) q ∧
      ((q.1 < 0 ∧ c = 0 ∧ e = 5) ∨ (0 ≤ q.1 ∧ 1099511627776 < q.2 ∧ c = 0 ∧ e = 3) ∨ (0 ≤ q.1 ∧ q.2 ≤ 1099511627776 ∧ c = q.2 ∧ e = 0))) := by
  unfold repair_Cost repair_checked
  rw [auto_eq r a w, Option.bind_some]
  by_cases c1 : aV r a = true
  · rw [if_pos c1, tvalid_eq r hd hw, Option.bind_some]
    by_cases c2 : tvld r t = true
    · rw [if_pos c2, fits_eq, Option.bind_some]
      by_cases c3 : wB R M I = true
      · have hA := ha c1
        have hW := wok_of c3
        obtain ⟨v, hv1, hv2, hv3, hv4⟩ := sizes_low hA
        have hS : empty_Sizes ⟨r⟩ a = some (v, 0) := by
          unfold empty_Sizes
          rw [auto_eq r a w, Option.bind_some, if_pos c1, hv1]; rfl
        obtain ⟨tb, e1, e2, e3⟩ := tableOf_eq (n := n) hA hv2 hW hS hd hs
        have hts := tsT_eq t
        obtain ⟨q, q1, q2⟩ := best_eq hA hv2 (cosT_CV hv2 hW t) e2 (by omega) e3
        rw [if_pos c3, e1, Option.bind_some, if_pos rfl, q1, Option.bind_some]
        by_cases d1 : q.1 < 0
        · rw [if_pos d1]
          exact ⟨0, 5, rfl, fun _ _ _ => ⟨v, hv2, hv3, hv4, q, q2, .inl ⟨d1, rfl, rfl⟩⟩⟩
        · rw [if_neg d1]
          by_cases d2 : 1099511627776 < q.2
          · rw [if_pos d2]
            exact ⟨0, 3, rfl, fun _ _ _ => ⟨v, hv2, hv3, hv4, q, q2, .inr (.inl ⟨by omega, d2, rfl, rfl⟩)⟩⟩
          · rw [if_neg d2]
            exact ⟨q.2, 0, rfl, fun _ _ _ => ⟨v, hv2, hv3, hv4, q, q2, .inr (.inr ⟨by omega, by omega, rfl, rfl⟩)⟩⟩
      · rw [if_neg c3]
        exact ⟨0, 6, rfl, fun _ _ h => absurd h c3⟩
    · rw [if_neg c2]
      exact ⟨0, 1, rfl, fun _ h _ => absurd h c2⟩
  · rw [if_neg c1]
    exact ⟨0, 1, rfl, fun h => absurd h c1⟩
theorem Distance_eq {n : Nat} {r : List Int} {t u : Tree} {R M I : Int} (hd : tdT t + 1 < n) (hd' : tdT u + 1 < n) (hw : twT t = true) (hw' : twT u = true) (hs : tsT t ≤ 80) (hs' : tsT u ≤ 80) :
    repair_Distance n ⟨r⟩ t u ⟨R, M, I⟩ = some (if tvld r t = true ∧ tvld r u = true then (if wB R M I = true then (dT R M I t u, 0) else (0, 6)) else (0, 1)) := by
  unfold repair_Distance
  rw [tvalid_eq r (by omega) hw, Option.bind_some]
  by_cases c1 : tvld r t = true
  · rw [if_pos c1, tvalid_eq r (by omega) hw', Option.bind_some]
    by_cases c2 : tvld r u = true
    · rw [if_pos c2, if_pos ⟨c1, c2⟩, fits_eq, Option.bind_some]
      by_cases c3 : wB R M I = true
      · rw [if_pos c3, if_pos c3, distance_eq (wok_of c3) n t u hd hd' hs hs']; rfl
      · rw [if_neg c3, if_neg c3]
    · rw [if_neg c2, if_neg (fun h => c2 h.2)]
  · rw [if_neg c1, if_neg (fun h => c1 h.1)]
theorem rDistance_eq {n : Nat} {r : List Int} {t u : Tree} {R M I : Int} (hd : tdT t + 1 < n) (hd' : tdT u + 1 < n) (hw : twT t = true) (hw' : twT u = true) (hs : tsT t ≤ 80) (hs' : tsT u ≤ 80) :
    ref22_Distance n ⟨r⟩ t u ⟨R, M, I⟩ = some (if tvld r t = true ∧ tvld r u = true then (if wB R M I = true then (dT R M I t u, 0) else (0, 6)) else (0, 1)) := by
  unfold ref22_Distance
  rw [rtvalid_eq r (by omega) hw, Option.bind_some]
  by_cases c1 : tvld r t = true
  · rw [if_pos c1, rtvalid_eq r (by omega) hw', Option.bind_some]
    by_cases c2 : tvld r u = true
    · rw [if_pos c2, if_pos ⟨c1, c2⟩, rfits_eq, Option.bind_some]
      by_cases c3 : wB R M I = true
      · rw [if_pos c3, if_pos c3, between_eq (wok_of c3) n t u hd hd' hs hs']; rfl
      · rw [if_neg c3, if_neg c3]
    · rw [if_neg c2, if_neg (fun h => c2 h.2)]
  · rw [if_neg c1, if_neg (fun h => c1 h.1)]
end Tab
end Go.AM.S22

namespace Go.AM
open Go

theorem hOf_pr {f : FuncId} : ∀ {l : List (Nat × FH)}, (l.all fun p => p.2.pr.isNone) = true → (hOf l f).pr = none
  | [], _ => rfl
  | (k, h) :: r, ha => by
    rw [List.all_cons, Bool.and_eq_true] at ha
    unfold hOf
    split
    · have := ha.1
      cases hp : h.pr with
      | none => rfl
      | some p => simp [hp] at this
    · exact hOf_pr ha.2
section
variable {T : Tab}
theorem wt_int {n : Nat} {t : TypeId} {cs : List PV} (hd : (T.at t).d = .int .i64) (h : wt T n t cs) : ∃ i, cs = [iv i] ∧ -9223372036854775808 ≤ i ∧ i ≤ 9223372036854775807 := by
  cases n with
  | zero => exact h.elim
  | succ n =>
    unfold wt at h
    rw [hd] at h
    obtain ⟨i, rfl, h1, h2⟩ := h
    refine ⟨i, rfl, ?_⟩
    have e1 : IntKind.i64.min = -9223372036854775808 := by decide
    have e2 : IntKind.i64.max = 9223372036854775807 := by decide
    rw [e1] at h1; rw [e2] at h2
    exact ⟨h1, h2⟩
theorem wt_sl {n : Nat} {t e : TypeId} {cs : List PV} (hd : (T.at t).d = .sl e) (h : wt T n t cs) : ∃ m rows, n = m + 1 ∧ cs = [.sl none (T.at e).size rows] ∧ rows.length < 9223372036854775808 ∧ ∀ r, r ∈ rows → wt T m e r := by
  cases n with
  | zero => exact h.elim
  | succ n =>
    unfold wt at h
    rw [hd] at h
    obtain ⟨rows, rfl, h1, h2⟩ := h
    have : maxLen < 9223372036854775808 := by decide
    exact ⟨n, rows, rfl, rfl, by omega, h2⟩
theorem wt_st {n : Nat} {t : TypeId} {fs : List (Nat × TypeId)} {cs : List PV} (hd : (T.at t).d = .st fs) (h : wt T n t cs) : ∃ m, n = m + 1 ∧ cs.length = (T.at t).size ∧ ∀ f, f ∈ fs → wt T m f.2 ((cs.drop f.1).take (T.at f.2).size) := by
  cases n with
  | zero => exact h.elim
  | succ n =>
    unfold wt at h
    rw [hd] at h
    exact ⟨n, rfl, h⟩
theorem rows_map {α : Type} {row : α → List PV} {P : α → Prop} : ∀ {rows : List (List PV)}, (∀ r, r ∈ rows → ∃ x, r = row x ∧ P x) → ∃ xs : List α, rows = xs.map row ∧ ∀ x, x ∈ xs → P x
  | [], _ => ⟨[], rfl, by simp⟩
  | r :: rows, h => by
    obtain ⟨x, rfl, hx⟩ := h r (by simp)
    obtain ⟨xs, rfl, hxs⟩ := rows_map (rows := rows) (fun r' h' => h r' (List.mem_cons_of_mem _ h'))
    exact ⟨x :: xs, rfl, fun y hy => by
      rcases List.mem_cons.1 hy with rfl | hy
      · exact hx
      · exact hxs y hy⟩
/-- a slice of which the elements are known -/
theorem wt_slM {n : Nat} {t e : TypeId} {cs : List PV} {α : Type} {row : α → List PV} {P : α → Prop} (hd : (T.at t).d = .sl e) (h : wt T n t cs) (he : ∀ m r, m < n → wt T m e r → ∃ x, r = row x ∧ P x) : ∃ xs : List α, cs = [.sl none (T.at e).size (xs.map row)] ∧ xs.length < 9223372036854775808 ∧ ∀ x, x ∈ xs → P x := by
  obtain ⟨m, rows, rfl, rfl, h1, h2⟩ := wt_sl hd h
  obtain ⟨xs, rfl, hx⟩ := rows_map (row := row) (P := P) (fun r hr => he m r (by omega) (h2 r hr))
  exact ⟨xs, rfl, by simpa using h1, hx⟩
end
end Go.AM

namespace Go.AM.S22
open Go Go.Proofs Go.AM
set_option linter.unusedVariables false
theorem twL_all : ∀ {l : List Tree}, (∀ x, x ∈ l → twT x = true) → twL l = true
  | [], _ => by rw [twL]
  | x :: r, h => by rw [twL, h x (by simp), twL_all (fun y hy => h y (List.mem_cons_of_mem _ hy))]; rfl
theorem d3 : (T.at 3).d = .int .i64 := rfl
theorem d30 : (T.at 30).d = .st [(0, 3), (1, 28)] := rfl
theorem d28 : (T.at 28).d = .sl 30 := rfl
theorem d22 : (T.at 22).d = .sl 3 := rfl
theorem d24 : (T.at 24).d = .st [(0, 22)] := rfl
theorem d25 : (T.at 25).d = .sl 64 := rfl
theorem d27 : (T.at 27).d = .st [(0, 3), (1, 22), (2, 25)] := rfl
theorem d64 : (T.at 64).d = .st [(0, 3), (1, 22), (2, 3)] := rfl
theorem sz3 : (T.at 3).size = 1 := rfl
theorem sz28 : (T.at 28).size = 1 := rfl
theorem sz30 : (T.at 30).size = 2 := rfl
theorem sz22 : (T.at 22).size = 1 := rfl
theorem sz24 : (T.at 24).size = 1 := rfl
theorem sz25 : (T.at 25).size = 1 := rfl
theorem sz27 : (T.at 27).size = 3 := rfl
theorem sz64 : (T.at 64).size = 3 := rfl
theorem wt30 : ∀ (n : Nat) (cs : List PV), wt T n 30 cs → ∃ x : Tree, cs = row_Tree x ∧ twT x = true := by
  intro n
  induction n using Nat.strongRecOn with
  | _ n ih =>
    intro cs h
    obtain ⟨m, rfl, h1, h2⟩ := wt_st d30 h
    rw [sz30] at h1
    match cs, h1 with
    | [c0, c1], _ =>
      have f0 := h2 (0, 3) (by simp)
      have f1 := h2 (1, 28) (by simp)
      simp only [sz3, sz28, List.drop_zero, List.drop_succ_cons, List.take_succ_cons, List.take_zero] at f0 f1
      obtain ⟨i, e0, _⟩ := wt_int d3 f0
      obtain ⟨xs, e1, hl, hx⟩ := wt_slM (row := row_Tree) (P := fun x => twT x = true) d28 f1 (fun m' r hm hr => ih m' (by omega) r hr)
      injection e0 with e0; subst e0
      injection e1 with e1; subst e1
      refine ⟨⟨i, xs⟩, by rw [row_Tree_eq, sz30], ?_⟩
      rw [twT, decide_eq_true hl, twL_all hx]; rfl
theorem wt22 {n : Nat} {cs : List PV} (h : wt T n 22 cs) : ∃ r : List Int, cs = [.sl none 1 (r.map rowI)] ∧ r.length < 9223372036854775808 := by
  obtain ⟨xs, e, hl, _⟩ := wt_slM (row := rowI) (P := fun _ => True) d22 h (fun m' r _ hr => by
    obtain ⟨i, e, _⟩ := wt_int d3 hr
    exact ⟨i, e, trivial⟩)
  rw [sz3] at e
  exact ⟨xs, e, hl⟩
theorem wt24 {n : Nat} {cs : List PV} (h : wt T n 24 cs) : ∃ r : List Int, cs = [.sl none 1 (r.map rowI)] := by
  obtain ⟨m, rfl, h1, h2⟩ := wt_st d24 h
  rw [sz24] at h1
  match cs, h1 with
  | [c0], _ =>
    have f0 := h2 (0, 22) (by simp)
    simp only [sz22, List.drop_zero, List.take_succ_cons, List.take_zero] at f0
    obtain ⟨r, e, _⟩ := wt22 f0
    exact ⟨r, e⟩
theorem wt64 {n : Nat} {cs : List PV} (h : wt T n 64 cs) : ∃ x : Rule, cs = row_Rule x ∧ x.From.length < 9223372036854775808 := by
  obtain ⟨m, rfl, h1, h2⟩ := wt_st d64 h
  rw [sz64] at h1
  match cs, h1 with
  | [c0, c1, c2], _ =>
    have f0 := h2 (0, 3) (by simp)
    have f1 := h2 (1, 22) (by simp)
    have f2 := h2 (2, 3) (by simp)
    simp only [sz3, sz22, List.drop_zero, List.drop_succ_cons, List.take_succ_cons, List.take_zero] at f0 f1 f2
    obtain ⟨i, e0, _⟩ := wt_int d3 f0
    obtain ⟨xs, e1, hl⟩ := wt22 f1
    obtain ⟨j, e2, _⟩ := wt_int d3 f2
    injection e0 with e0; subst e0
    injection e1 with e1; subst e1
    injection e2 with e2; subst e2
    exact ⟨⟨i, xs, j⟩, rfl, hl⟩
theorem wt27 {n : Nat} {cs : List PV} (h : wt T n 27 cs) : ∃ a : Automaton, cs = row_Automaton a ∧ AW a := by
  obtain ⟨m, rfl, h1, h2⟩ := wt_st d27 h
  rw [sz27] at h1
  match cs, h1 with
  | [c0, c1, c2], _ =>
    have f0 := h2 (0, 3) (by simp)
    have f1 := h2 (1, 22) (by simp)
    have f2 := h2 (2, 25) (by simp)
    simp only [sz3, sz22, sz25, List.drop_zero, List.drop_succ_cons, List.take_succ_cons, List.take_zero] at f0 f1 f2
    obtain ⟨i, e0, _⟩ := wt_int d3 f0
    obtain ⟨xs, e1, hl⟩ := wt22 f1
    obtain ⟨rs, e2, hl2, hx⟩ := wt_slM (row := row_Rule) (P := fun x => x.From.length < 9223372036854775808) d25 f2 (fun m' r _ hr => wt64 hr)
    injection e0 with e0; subst e0
    injection e1 with e1; subst e1
    injection e2 with e2; subst e2
    exact ⟨⟨i, xs, rs⟩, rfl, hl, hl2, hx⟩
theorem primOk : PrimOk Try.prog GL H := PrimOk.none fun f => hOf_pr (by kernel_rfl)
end Go.AM.S22

namespace Go.AM.S22
open Go Go.Proofs Go.AM
set_option linter.unusedVariables false
set_option maxRecDepth 100000
set_option maxHeartbeats 4000000
namespace Tab
open Go Go.Proofs Go.AM Go.AM.S22
theorem awake_eq (m : Nat) : law22_awake m = some true := rfl
theorem tv_sh {r : List Int} {t : Tree} (h : tvld r t = true) : shT r t = true := by
  unfold tvld at h
  simp only [Bool.and_eq_true] at h
  exact h.2.2
theorem ask_iff {r : List Int} {a : Automaton} {t : Tree} : A3.ask r a t = 0 ↔ aV r a = true ∧ tvld r t = true := by
  unfold A3.ask
  rw [← Bool.and_eq_true]
  split
  · simp [*]
  · simp [*]
/-- an accepted tree is not nearer than the cost -/
theorem cost_le {r : List Int} {a : Automaton} {t u : Tree} {R M I : Int} (h3 : A3.OKa r a) (ha : OKa a) (w : WOk R M I) {v : List Int} (hv : ZV a.States.toNat v) (hL : Sz.Low a.Rules v) {q : Int × Int} (hq : Best a v (cosT a v R M I t) q)
    (hu : shT r u = true) (hs : tsT u ≤ 80) {s : Int} (hsF : s ∈ a.Final) (hst : A3.stT a u s = true) : 0 ≤ q.1 ∧ q.2 ≤ dT R M I t u := by
  have hd := A3.der_of h3 u s hu hst
  have hg := (hL u s hd).1
  rw [gv_gz] at hg
  have hz := hv.gz s
  rcases hq with ⟨_, h⟩ | ⟨_, h2, _, _, h5⟩
  · exact absurd (by omega) (h s hsF)
  · exact ⟨h2, Int.le_trans (h5 s hsF (by omega)) (low_cost ha hv w hL t u s hd hs)⟩
theorem distances_law (m : Nat) (r : List Int) (a : Automaton) (t u : Tree) (R M I : Int) (w : AW a) (hd : tdT t ≤ m) (hd' : tdT u ≤ m) (hw : twT t = true) (hw' : twT u = true) : law22_RepairDistances (m + 20) ⟨r⟩ a t u ⟨R, M, I⟩ = some true := by
  unfold law22_RepairDistances law22_given
  rw [few2_eq r a t u w (by omega) hw (by omega) hw', awake_eq]
  simp only [Option.bind_some]
  by_cases c : (decide ((tsT t : Int) ≤ 80) && fewB r a u) = true
  · rw [if_pos c]
    rw [Bool.and_eq_true, decide_eq_true_eq] at c
    have hs' : tsT u ≤ 80 := by
      have := c.2
      unfold fewB at this
      simp only [Bool.and_eq_true, decide_eq_true_eq] at this
      omega
    have hs : tsT t ≤ 80 := by omega
    obtain ⟨b, e1, e2⟩ := A3.Accepts_eq (n := m + 20) (t := u) w (by omega) hw' (fun h => A3.ok_of h c.2) (by omega)
    obtain ⟨k, e, f1, f2⟩ := Cost_eq (n := m + 20) (t := t) (R := R) (M := M) (I := I) w (by omega) hw (fun h => ok_of h c.2) hs
    rw [Distance_eq (by omega) (by omega) hw hw' hs hs', rDistance_eq (by omega) (by omega) hw hw' hs hs', Option.bind_some, Option.bind_some, if_pos rfl, if_pos rfl, e1, Option.bind_some, f1, Option.bind_some]
    by_cases g1 : tvld r t = true ∧ tvld r u = true
    · rw [if_pos g1]
      by_cases g2 : wB R M I = true
      · rw [if_pos g2, if_pos rfl]
        dsimp only
        by_cases g3 : A3.ask r a u = 0
        · rw [if_pos g3]
          by_cases g4 : b = true
          · rw [if_pos g4]
            obtain ⟨s, s1, s2⟩ := (e2 g3).1 g4
            have hv := (ask_iff.1 g3).1
            obtain ⟨v, v1, v2, v3, q, q1, q2⟩ := f2 hv g1.1 g2
            have hb := cost_le (A3.ok_of hv c.2) (ok_of hv c.2) (wok_of g2) v1 v3 q1 (tv_sh g1.2) hs' s1 s2
            have hbig := dT_big (wok_of g2) t u
            rcases q2 with ⟨h, _⟩ | ⟨_, h, _⟩ | ⟨_, _, h3, h4⟩
            · omega
            · omega
            · rw [if_pos h4, if_pos (by omega)]
          · rw [if_neg g4]
        · rw [if_neg g3]
      · rw [if_neg g2, if_neg (by decide)]
    · rw [if_neg g1, if_neg (by decide)]
  · rw [if_neg c]
end Tab
theorem d43 : (T.at 43).d = .st [(0, 3), (1, 3), (2, 3)] := rfl
theorem sz43 : (T.at 43).size = 3 := rfl
theorem wt43 {n : Nat} {cs : List PV} (h : wt T n 43 cs) : ∃ w : ref22_Weights, cs = [iv w.Relabel, iv w.Remove, iv w.Insert] := by
  obtain ⟨m, rfl, h1, h2⟩ := wt_st d43 h
  rw [sz43] at h1
  match cs, h1 with
  | [c0, c1, c2], _ =>
    have f0 := h2 (0, 3) (by simp)
    have f1 := h2 (1, 3) (by simp)
    have f2 := h2 (2, 3) (by simp)
    simp only [sz3, List.drop_zero, List.drop_succ_cons, List.take_succ_cons, List.take_zero] at f0 f1 f2
    obtain ⟨i, e0, _⟩ := wt_int d3 f0
    obtain ⟨j, e1, _⟩ := wt_int d3 f1
    obtain ⟨k, e2, _⟩ := wt_int d3 f2
    injection e0 with e0; subst e0
    injection e1 with e1; subst e1
    injection e2 with e2; subst e2
    exact ⟨⟨i, j, k⟩, rfl⟩
theorem closed5 : closedB T [3, 22, 24, 25, 27, 28, 30, 43, 64] = true := by decide +kernel
theorem law5 (pss : List (List PV)) (h : wtAll T [24, 27, 30, 30, 43] pss) : ∃ σ', call Try.prog T H (.fn 5) (argsOf T [24, 27, 30, 30, 43] pss) [] = some (.ret (.p (.lit (.bool true))), σ') := by
  obtain ⟨p1, r1, rfl, ⟨n1, w1⟩, p2, r2, rfl, ⟨n2, w2⟩, p3, r3, rfl, ⟨n3, w3⟩, p4, r4, rfl, ⟨n4, w4⟩, p5, r5, rfl, ⟨n5, w5⟩, rfl⟩ := h
  obtain ⟨r, rfl⟩ := wt24 w1
  obtain ⟨a, rfl, ha⟩ := wt27 w2
  obtain ⟨x, rfl, hx⟩ := wt30 n3 p3 w3
  obtain ⟨y, rfl, hy⟩ := wt30 n4 p4 w4
  obtain ⟨w, rfl⟩ := wt43 w5
  have := spec5 (max (tdT x) (tdT y) + 20) ⟨r⟩ a x y w true (Tab.distances_law _ r a x y w.Relabel w.Remove w.Insert ha (Nat.le_max_left _ _) (Nat.le_max_right _ _) hx hy)
  rw [row_Tree_eq, row_Tree_eq]
  exact ⟨[], this⟩
end Go.AM.S22

