/- What the functions of this seat compute on the abstract machine, function by function, and the plain laws. -/
import Derived.Test.YtbalikooghpmlaaDoorLaws
set_option linter.unusedVariables false
set_option linter.unusedSimpArgs false
namespace Go.AM.S01
open Go Go.Proofs Go.AM
set_option linter.unusedVariables false
theorem tree_Size_eq : ∀ (n : Nat) (t : Tree), tdT t < n → tsT t ≤ 1000000 → tree_Size n t = some (tsT t : Int) := by
  intro n
  induction n with
  | zero => intro t hd; omega
  | succ n ih =>
    intro t hd hs
    rw [tdT_eq] at hd
    have hlen := tlen t.Kids
    rw [tsT_eq] at hs
    rw [tree_Size, rangeL, if_pos (by omega)]
    suffices H : ∀ (l : List Tree) (i : Nat) (s : Int) (k : Int → Option Int), tdL l < n + 1 → 1 ≤ s → s + tsL l ≤ 1000001 → rangeC (fun i1 x1 (s1 : Int) n1 => (tree_Size n x1).bind fun v1 => n1 (w64 (s1 + v1))) l i s k = k (s + tsL l) by
      rw [H t.Kids 0 1 _ hd (by omega) (by omega), tsT_eq]
      congr 1
    intro l
    induction l with
    | nil => intro i s k _ _ _; rw [rangeC, tsL]; congr 1; simp
    | cons x r ihr =>
      intro i s k hd h0 h1
      obtain ⟨d1, d2⟩ := tdL_cons hd
      rw [tsL] at h1
      rw [rangeC, ih x d1 (by omega)]
      simp only [Option.bind_some]
      rw [w64_eq (by omega) (by omega), ihr _ _ _ d2 (by omega) (by omega), tsL]
      congr 1; omega
theorem ref01_Size_eq : ∀ (n : Nat) (t : Tree), tdT t < n → tsT t ≤ 1000000 → ref01_Size n t = some (tsT t : Int) := by
  intro n
  induction n with
  | zero => intro t hd; omega
  | succ n ih =>
    intro t hd hs
    rw [tdT_eq] at hd
    have hlen := tlen t.Kids
    rw [tsT_eq] at hs
    rw [ref01_Size, rangeL, if_pos (by omega)]
    suffices H : ∀ (l : List Tree) (i : Nat) (s : Int) (k : Int → Option Int), tdL l < n + 1 → 1 ≤ s → s + tsL l ≤ 1000001 → rangeC (fun i1 x1 (s1 : Int) n1 => (ref01_Size n x1).bind fun v1 => n1 (w64 (s1 + v1))) l i s k = k (s + tsL l) by
      rw [H t.Kids 0 1 _ hd (by omega) (by omega), tsT_eq]
      congr 1
    intro l
    induction l with
    | nil => intro i s k _ _ _; rw [rangeC, tsL]; congr 1; simp
    | cons x r ihr =>
      intro i s k hd h0 h1
      obtain ⟨d1, d2⟩ := tdL_cons hd
      rw [tsL] at h1
      rw [rangeC, ih x d1 (by omega)]
      simp only [Option.bind_some]
      rw [w64_eq (by omega) (by omega), ihr _ _ _ d2 (by omega) (by omega), tsL]
      congr 1; omega
mutual
theorem td_le : ∀ t : Tree, tdT t + 1 ≤ tsT t
  | .mk s k => by rw [tdT, tsT]; have := tdL_le k; omega
theorem tdL_le : ∀ l : List Tree, tdL l ≤ tsL l
  | [] => by rw [tdL, tsL]; exact Nat.le_refl _
  | x :: r => by rw [tdL, tsL]; have := td_le x; have := tdL_le r; omega
end
theorem tree_Depth_eq : ∀ (n : Nat) (t : Tree), tdT t < n → tsT t ≤ 1000000 → tree_Depth n t = some ((tdT t : Int) + 1) := by
  intro n
  induction n with
  | zero => intro t hd; omega
  | succ n ih =>
    intro t hd hs
    rw [tdT_eq] at hd
    have hlen := tlen t.Kids
    rw [tsT_eq] at hs
    have hdl := tdL_le t.Kids
    rw [tree_Depth, rangeL, if_pos (by omega)]
    suffices H : ∀ (l : List Tree) (i : Nat) (s : Nat) (k : Int → Option Int), tdL l < n + 1 → tsL l ≤ 1000000 → rangeC (fun i1 x1 (s1 : Int) n1 => (tree_Depth n x1).bind fun v1 => n1 (maxI s1 v1)) l i (s : Int) k = k ((max s (tdL l) : Nat) : Int) by
      have h2 := H t.Kids 0 0 (fun s1 => some (w64 (s1 + 1))) hd (by omega)
      rw [show ((0 : Nat) : Int) = 0 from rfl] at h2
      rw [h2, w64_eq (by omega) (by omega), tdT_eq, Nat.zero_max]
    intro l
    induction l with
    | nil => intro i s k _ _; rw [rangeC, tdL, Nat.max_zero]
    | cons x r ihr =>
      intro i s k hd h1
      obtain ⟨d1, d2⟩ := tdL_cons hd
      rw [tsL] at h1
      rw [rangeC, ih x d1 (by omega)]
      simp only [Option.bind_some]
      rw [show maxI (s : Int) ((tdT x : Int) + 1) = ((max s (tdT x + 1) : Nat) : Int) by unfold maxI; split <;> omega, ihr _ _ _ d2 (by omega), tdL]
      congr 2; omega
theorem ref01_Depth_eq : ∀ (n : Nat) (t : Tree), tdT t < n → tsT t ≤ 1000000 → ref01_Depth n t = some ((tdT t : Int) + 1) := by
  intro n
  induction n with
  | zero => intro t hd; omega
  | succ n ih =>
    intro t hd hs
    rw [tdT_eq] at hd
    have hlen := tlen t.Kids
    rw [tsT_eq] at hs
    have hdl := tdL_le t.Kids
    rw [ref01_Depth, rangeL, if_pos (by omega)]
    suffices H : ∀ (l : List Tree) (i : Nat) (s : Nat) (k : Int → Option Int), tdL l < n + 1 → tsL l ≤ 1000000 → rangeC (fun i1 x1 (s1 : Int) n1 => (ref01_Depth n x1).bind fun v1 => n1 (maxI s1 v1)) l i (s : Int) k = k ((max s (tdL l) : Nat) : Int) by
      have h2 := H t.Kids 0 0 (fun s1 => some (w64 (s1 + 1))) hd (by omega)
      rw [show ((0 : Nat) : Int) = 0 from rfl] at h2
      rw [h2, w64_eq (by omega) (by omega), tdT_eq, Nat.zero_max]
    intro l
    induction l with
    | nil => intro i s k _ _; rw [rangeC, tdL, Nat.max_zero]
    | cons x r ihr =>
      intro i s k hd h1
      obtain ⟨d1, d2⟩ := tdL_cons hd
      rw [tsL] at h1
      rw [rangeC, ih x d1 (by omega)]
      simp only [Option.bind_some]
      rw [show maxI (s : Int) ((tdT x : Int) + 1) = ((max s (tdT x + 1) : Nat) : Int) by unfold maxI; split <;> omega, ihr _ _ _ d2 (by omega), tdL]
      congr 2; omega
theorem order_eq (a b : Int) : ref01_order a b = some (ord a b) := by
  unfold ref01_order ord
  split
  · rfl
  · split <;> rfl
theorem rcompare_eq : ∀ (n : Nat) (x y : Tree), tdT x + 1 < n → tdT y + 1 < n → tsT x ≤ 100000 → tsT y ≤ 100000 → ref01_Compare n x y = some (cmpF n x y) := by
  intro n
  induction n with
  | zero => intro x y hd; omega
  | succ n ih =>
    intro x y hd hd' hx hy
    have hk := tlen x.Kids
    have hk' := tlen y.Kids
    rw [ref01_Compare, ref01_Size_eq n x (by omega) (by omega), ref01_Size_eq n y (by omega) (by omega)]
    rw [tdT_eq] at hd hd'
    have hx' := hx
    have hy' := hy
    rw [tsT_eq] at hx' hy'
    simp only [Option.bind_some]
    rw [order_eq, order_eq, order_eq, cmpF]
    simp only [Option.bind_some]
    by_cases c1 : ord (tsT x) (tsT y) = 0
    · rw [if_pos c1, if_pos c1]
      by_cases c2 : ord x.Sym y.Sym = 0
      · rw [if_pos c2, if_pos c2]
        have e0 : minI (x.Kids.length : Int) (y.Kids.length : Int) = ((min x.Kids.length y.Kids.length : Nat) : Int) := by unfold minI; split <;> omega
        rw [e0, rangeI, if_pos (by omega), Int.toNat_natCast]
        suffices H : ∀ (us bs pa pb : List Tree), pa.length = pb.length → x.Kids = pa ++ us → y.Kids = pb ++ bs → tdL us + 1 < n + 1 → tdL bs + 1 < n + 1 → tsL us ≤ 100000 → tsL bs ≤ 100000 → rangeC (fun i1 (_ : Unit) (s1 : Unit) n1 => (x.Kids[i1]?).bind fun v6 => (y.Kids[i1]?).bind fun v7 => (ref01_Compare n v6 v7).bind fun v8 => if v8 = 0 then n1 () else some v8) (List.replicate (min us.length bs.length) ()) pa.length () (fun _ => some (ord (x.Kids.length : Int) (y.Kids.length : Int))) = some (lexF (cmpF n) us bs) from
          H x.Kids y.Kids [] [] rfl rfl rfl (by omega) (by omega) (by omega) (by omega)
        intro us
        induction us with
        | nil =>
          intro bs pa pb e1 e2 e3 _ _ _ _
          rw [List.length_nil, Nat.zero_min, List.replicate_zero, rangeC, e2, e3]
          unfold ord
          cases bs with
          | nil => rw [if_neg (by simp; omega), if_neg (by simp; omega), lexF]
          | cons b bs => rw [if_pos (by simp; omega), lexF]
        | cons a us iha =>
          intro bs pa pb e1 e2 e3 h1 h1' h2 h3
          have h4 := h1
          rw [tdL] at h4
          rw [tsL] at h2
          cases bs with
          | nil =>
            rw [List.length_nil, Nat.min_zero, List.replicate_zero, rangeC, e2, e3]
            unfold ord
            rw [if_neg (by simp; omega), if_pos (by simp; omega), lexF]
          | cons b bs =>
            rw [tsL] at h3
            have h4' := h1'
            rw [tdL] at h4'
            have ha : x.Kids[pa.length]? = some a := by rw [e2, List.getElem?_append_right (Nat.le_refl _), Nat.sub_self]; rfl
            have hb : y.Kids[pa.length]? = some b := by rw [e3, e1, List.getElem?_append_right (Nat.le_refl _), Nat.sub_self]; rfl
            rw [List.length_cons, List.length_cons, Nat.succ_min_succ, List.replicate_succ, rangeC, ha, hb]
            simp only [Option.bind_some]
            rw [ih a b (by omega) (by omega) (by omega) (by omega), lexF]
            simp only [Option.bind_some]
            by_cases c : cmpF n a b = 0
            · rw [if_pos c, if_pos c]
              have := iha bs (pa ++ [a]) (pb ++ [b]) (by simp [e1]) (by simp [e2]) (by simp [e3]) (by omega) (by omega) (by omega) (by omega)
              rw [List.length_append] at this
              exact this
            · rw [if_neg c, if_neg c]
      · rw [if_neg c2, if_neg c2]
    · rw [if_neg c1, if_neg c1]
end Go.AM.S01

namespace Go.AM.S01
open Go Go.Proofs Go.AM
set_option linter.unusedVariables false
def rk (r : List Int) (s : Int) : Int := (r[s.toNat]?).getD 0
theorem rk_get {r : List Int} {s : Int} (h0 : 0 ≤ s) (h1 : s < r.length) : idx r s = some (rk r s) := by
  unfold idx rk
  rw [if_pos h0, List.getElem?_eq_getElem (by omega)]; rfl
mutual
def shT (r : List Int) : Tree → Bool
  | .mk s k => decide (0 ≤ s ∧ s < r.length ∧ (k.length : Int) = rk r s) && shL r k
def shL (r : List Int) : List Tree → Bool
  | [] => true
  | x :: q => shT r x && shL r q
end
theorem shT_eq (r : List Int) (t : Tree) : shT r t = (decide (0 ≤ t.Sym ∧ t.Sym < r.length ∧ (t.Kids.length : Int) = rk r t.Sym) && shL r t.Kids) := by cases t; rw [shT]
theorem tw_out {t : Tree} (h : twT t = true) : t.Kids.length < 9223372036854775808 ∧ twL t.Kids = true := by
  rw [twT_eq] at h; simpa only [Bool.and_eq_true, decide_eq_true_eq] using h
theorem tw_cons {x : Tree} {q : List Tree} (h : twL (x :: q) = true) : twT x = true ∧ twL q = true := by
  rw [twL] at h; simpa only [Bool.and_eq_true] using h
theorem tformed_eq (r : List Int) : ∀ (n : Nat) (t : Tree) (m : Int), tdT t < n → twT t = true → 0 ≤ m → m ≤ 1000000 →
    (((tsT t : Int) ≤ m ∧ shT r t = true) ∧ tree_formed n ⟨r⟩ t m = some (true, m - tsT t)) ∨ (¬ ((tsT t : Int) ≤ m ∧ shT r t = true) ∧ ∃ v, tree_formed n ⟨r⟩ t m = some (false, v)) := by
  intro n
  induction n with
  | zero => intro t m hd; omega
  | succ n ih =>
    intro t m hd hw h1 h2
    obtain ⟨w1, w2⟩ := tw_out hw
    rw [tree_formed, shT_eq, tsT_eq]
    simp only [Bool.and_eq_true, decide_eq_true_eq]
    have e1 : w64 (m - 1) = m - 1 := w64_eq (by omega) (by omega)
    rw [e1]
    by_cases c1 : m - 1 < 0
    · exact .inr ⟨by omega, _, by rw [if_pos c1]⟩
    rw [if_neg c1]
    by_cases c2 : t.Sym < 0
    · exact .inr ⟨by omega, _, by rw [if_pos c2]⟩
    rw [if_neg c2]
    by_cases c3 : (r.length : Int) ≤ t.Sym
    · exact .inr ⟨by omega, _, by rw [if_pos c3]⟩
    rw [if_neg c3, rk_get (by omega) (by omega)]
    simp only [Option.bind_some]
    by_cases c4 : (t.Kids.length : Int) = rk r t.Sym
    · rw [if_pos c4]
      rw [rangeL, if_pos w1]
      rw [tdT_eq] at hd
      suffices H : ∀ (l : List Tree) (i : Nat) (s : Int), tdL l < n + 1 → twL l = true → 0 ≤ s → s ≤ 1000000 →
        (((tsL l : Int) ≤ s ∧ shL r l = true) ∧ ∀ k : Int → Option (Bool × Int), rangeC (fun i1 x1 (s1 : Int) n1 => (tree_formed n ⟨r⟩ x1 s1).bind fun v2 => if v2.1 = true then n1 v2.2 else some (false, v2.2)) l i s k = k (s - tsL l)) ∨
        (¬ ((tsL l : Int) ≤ s ∧ shL r l = true) ∧ ∃ v, ∀ k : Int → Option (Bool × Int), rangeC (fun i1 x1 (s1 : Int) n1 => (tree_formed n ⟨r⟩ x1 s1).bind fun v2 => if v2.1 = true then n1 v2.2 else some (false, v2.2)) l i s k = some (false, v)) by
        rcases H t.Kids 0 (m - 1) hd w2 (by omega) (by omega) with ⟨c, e⟩ | ⟨c, v, e⟩
        · exact .inl ⟨⟨by omega, ⟨by omega, by omega, c4⟩, c.2⟩, by rw [e]; congr 2; omega⟩
        · exact .inr ⟨fun hh => c ⟨by omega, hh.2.2⟩, v, e _⟩
      intro l
      induction l with
      | nil => intro i s _ _ h1 h2; exact .inl ⟨⟨by rw [tsL]; exact h1, by rw [shL]⟩, fun k => by rw [rangeC, tsL]; congr 1; simp⟩
      | cons x q ihr =>
        intro i s hd hw h1 h2
        obtain ⟨d1, d2⟩ := tdL_cons hd
        obtain ⟨v1, v2⟩ := tw_cons hw
        rw [tsL, shL]
        simp only [Bool.and_eq_true, rangeC]
        rcases ih x s d1 v1 h1 h2 with ⟨c, e⟩ | ⟨c, v, e⟩
        · rcases ihr (i + 1) (s - tsT x) d2 v2 (by omega) (by omega) with ⟨c', e'⟩ | ⟨c', v, e'⟩
          · exact .inl ⟨⟨by omega, c.2, c'.2⟩, fun k => by rw [e]; simp only [Option.bind_some, if_true]; rw [e' k]; congr 1; omega⟩
          · exact .inr ⟨fun hh => c' ⟨by omega, hh.2.2⟩, v, fun k => by rw [e]; simp only [Option.bind_some, if_true]; rw [e' k]⟩
        · exact .inr ⟨fun hh => c ⟨by omega, hh.2.1⟩, v, fun k => by rw [e]; rfl⟩
    · rw [if_neg c4]
      exact .inr ⟨fun hh => c4 hh.2.1.2.2, _, rfl⟩
theorem shaped_eq (r : List Int) : ∀ (n : Nat) (t : Tree), tdT t < n → twT t = true → ref01_shaped n ⟨r⟩ t = some (shT r t) := by
  intro n
  induction n with
  | zero => intro t hd; omega
  | succ n ih =>
    intro t hd hw
    obtain ⟨w1, w2⟩ := tw_out hw
    rw [ref01_shaped, shT_eq]
    by_cases c2 : t.Sym < 0
    · rw [if_pos c2, decide_eq_false (by omega)]; rfl
    rw [if_neg c2]
    by_cases c3 : (r.length : Int) ≤ t.Sym
    · simp only [] at c3 ⊢
      rw [if_pos c3, decide_eq_false (by omega)]; rfl
    have c3' : ¬ (r.length : Int) ≤ t.Sym := c3
    rw [if_neg c3, show idx (Alphabet.mk r).Ranks t.Sym = some (rk r t.Sym) from rk_get (r := r) (Int.not_lt.1 c2) (Int.not_le.1 c3')]
    simp only [Option.bind_some]
    by_cases c4 : (t.Kids.length : Int) = rk r t.Sym
    · rw [if_pos c4, rangeL, if_pos w1, decide_eq_true ⟨Int.not_lt.1 c2, Int.not_le.1 c3', c4⟩, Bool.true_and]
      rw [tdT_eq] at hd
      suffices H : ∀ (l : List Tree) (i : Nat), tdL l < n + 1 → twL l = true → rangeC (fun i1 x1 (s1 : Unit) n1 => (ref01_shaped n ⟨r⟩ x1).bind fun v2 => if v2 = true then n1 () else some false) l i () (fun _ => some true) = some (shL r l) from H t.Kids 0 hd w2
      intro l
      induction l with
      | nil => intro i _ _; rw [rangeC, shL]
      | cons x q ihr =>
        intro i hd hw
        obtain ⟨d1, d2⟩ := tdL_cons hd
        obtain ⟨v1, v2⟩ := tw_cons hw
        rw [rangeC, ih x d1 v1, shL]
        simp only [Option.bind_some]
        cases shT r x with
        | true => rw [if_pos rfl, ihr (i + 1) d2 v2]; rfl
        | false => rfl
    · rw [if_neg c4, decide_eq_false (fun hh => c4 hh.2.2)]; rfl
def vA (r : List Int) : Bool := decide (r.length ≤ 12) && r.all fun x => decide (0 ≤ x ∧ x ≤ 3)
theorem hvA (r : List Int) : tree_ValidAlphabet ⟨r⟩ = some (vA r) := by
  unfold tree_ValidAlphabet vA
  simp only []
  by_cases c : (r.length : Int) ≤ 12
  · rw [if_pos c, decide_eq_true (by omega : r.length ≤ 12), Bool.true_and]
    simp only [jn]
    rw [rangeL, if_pos (by omega)]
    suffices H : ∀ (l : List Int) (i : Nat), rangeC (fun i1 (x1 : Int) (s1 : Unit) n1 => (tree_ValidAlphabet_1 x1).bind fun v1 => if v1 = true then some (!decide ((0 : Int) ≤ (i1 : Int))) else n1 ()) l i () (fun _ => some (!decide ((0 : Int) ≤ -1))) = some (l.all fun x => decide (0 ≤ x ∧ x ≤ 3)) from H r 0
    intro l
    induction l with
    | nil => intro i; rw [rangeC]; rfl
    | cons x q ih =>
      intro i
      rw [rangeC, List.all_cons]
      unfold tree_ValidAlphabet_1
      by_cases c1 : x < 0
      · rw [if_pos c1, decide_eq_false (by omega : ¬ (0 ≤ x ∧ x ≤ 3))]
        simp only [Option.bind_some, if_true]
        rw [decide_eq_true (by omega : (0 : Int) ≤ (i : Int))]; rfl
      · rw [if_neg c1]
        simp only [Option.bind_some]
        by_cases c2 : 3 < x
        · rw [decide_eq_true c2, decide_eq_false (by omega : ¬ (0 ≤ x ∧ x ≤ 3)), if_pos rfl, decide_eq_true (by omega : (0 : Int) ≤ (i : Int))]; rfl
        · rw [decide_eq_false c2, decide_eq_true (by omega : 0 ≤ x ∧ x ≤ 3), if_neg (by decide), Bool.true_and]
          exact ih (i + 1)
  · rw [if_neg c, decide_eq_false (by omega : ¬ r.length ≤ 12)]; rfl
theorem rvA (r : List Int) : ref01_ValidAlphabet ⟨r⟩ = some (vA r) := by
  unfold ref01_ValidAlphabet vA
  simp only []
  by_cases c : 12 < (r.length : Int)
  · rw [if_pos c, decide_eq_false (by omega : ¬ r.length ≤ 12)]; rfl
  · rw [if_neg c, decide_eq_true (by omega : r.length ≤ 12), Bool.true_and, rangeL, if_pos (by omega)]
    suffices H : ∀ (l : List Int) (i : Nat), rangeC (fun i1 (x1 : Int) (s1 : Unit) n1 => if x1 < 0 then some false else if 3 < x1 then some false else n1 ()) l i () (fun _ => some true) = some (l.all fun x => decide (0 ≤ x ∧ x ≤ 3)) from H r 0
    intro l
    induction l with
    | nil => intro i; rw [rangeC]; rfl
    | cons x q ih =>
      intro i
      rw [rangeC, List.all_cons]
      by_cases c1 : x < 0
      · rw [if_pos c1, decide_eq_false (by omega : ¬ (0 ≤ x ∧ x ≤ 3))]; rfl
      · rw [if_neg c1]
        by_cases c2 : 3 < x
        · rw [if_pos c2, decide_eq_false (by omega : ¬ (0 ≤ x ∧ x ≤ 3))]; rfl
        · rw [if_neg c2, decide_eq_true (by omega : 0 ≤ x ∧ x ≤ 3), Bool.true_and]
          exact ih (i + 1)
def tvld (r : List Int) (t : Tree) : Bool := vA r && (decide ((tsT t : Int) ≤ 300) && shT r t)
theorem tvalid_eq (r : List Int) {n : Nat} {t : Tree} (hd : tdT t < n) (hw : twT t = true) : tree_Valid n ⟨r⟩ t = some (tvld r t) := by
  unfold tree_Valid tvld
  rw [hvA]
  simp only [Option.bind_some]
  cases vA r with
  | false => rfl
  | true =>
    rw [if_pos rfl, Bool.true_and]
    rcases tformed_eq r n t 300 hd hw (by omega) (by omega) with ⟨c, e⟩ | ⟨c, v, e⟩
    · rw [e, decide_eq_true c.1, c.2]; rfl
    · rw [e]
      simp only [Option.bind_some]
      congr 1
      cases h1 : shT r t with
      | false => simp
      | true => rw [decide_eq_false (fun h2 => c ⟨h2, h1⟩)]; rfl
theorem rtvalid_eq (r : List Int) {n : Nat} {t : Tree} (hd : tdT t < n) (hw : twT t = true) : ref01_Valid n ⟨r⟩ t = some (tvld r t) := by
  unfold ref01_Valid tvld
  rw [rvA]
  simp only [Option.bind_some]
  cases vA r with
  | false => rfl
  | true =>
    rw [if_pos rfl, Bool.true_and, tfew_eq hd hw (by omega) (by omega)]
    simp only [Option.bind_some]
    by_cases c3 : (tsT t : Int) ≤ 300
    · rw [decide_eq_true c3, if_pos rfl, shaped_eq r n t hd hw]; rfl
    · rw [decide_eq_false c3]; rfl
end Go.AM.S01

namespace Go.AM.S01
open Go Go.Proofs Go.AM
set_option linter.unusedVariables false
theorem ord_zero {a b : Int} : ord a b = 0 ↔ a = b := by
  unfold ord; repeat' split
  all_goals omega
theorem lexF_zero {f : Tree → Tree → Int} {n : Nat} (hf : ∀ a b, tdT a < n → (f a b = 0 ↔ a = b)) : ∀ us vs, tdL us < n + 1 → (lexF f us vs = 0 ↔ us = vs)
  | [], [], _ => by rw [lexF]; simp
  | [], _ :: _, _ => by rw [lexF]; simp
  | _ :: _, [], _ => by rw [lexF]; simp
  | a :: us, b :: vs, h => by
    obtain ⟨d1, d2⟩ := tdL_cons h
    rw [lexF]
    have h1 := hf a b d1
    have h2 := lexF_zero hf us vs d2
    by_cases c : f a b = 0
    · rw [if_pos c, h2, List.cons.injEq]; exact ⟨fun e => ⟨h1.1 c, e⟩, fun e => e.2⟩
    · rw [if_neg c, List.cons.injEq]; exact ⟨fun e => absurd e c, fun e => absurd (h1.2 e.1) c⟩
theorem cmpF_zero : ∀ (n : Nat) (x y : Tree), tdT x < n → (cmpF n x y = 0 ↔ x = y)
  | 0, x, y, h => by omega
  | n + 1, x, y, h => by
    rw [cmpF]
    rw [tdT_eq] at h
    have h2 := lexF_zero (f := cmpF n) (n := n) (fun a b d => cmpF_zero n a b d) x.Kids y.Kids h
    by_cases c1 : ord (tsT x) (tsT y) = 0
    · rw [if_pos c1]
      by_cases c2 : ord x.Sym y.Sym = 0
      · rw [if_pos c2, h2]
        constructor
        · intro e
          have := ord_zero.1 c2
          obtain ⟨s, k⟩ := x; obtain ⟨s', k'⟩ := y
          simp only [] at e this
          rw [e, this]
        · intro e; rw [e]
      · rw [if_neg c2]
        exact ⟨fun e => absurd e c2, fun e => absurd (ord_zero.2 (by rw [e])) c2⟩
    · rw [if_neg c1]
      exact ⟨fun e => absurd e c1, fun e => absurd (ord_zero.2 (by rw [e])) c1⟩
theorem same_eq : ∀ (n : Nat) (x y : Tree), tdT x < n → twT x = true → (x = y ∧ ref01_Same n x y = some true) ∨ (x ≠ y ∧ ref01_Same n x y = some false) := by
  intro n
  induction n with
  | zero => intro x y h; omega
  | succ n ih =>
    intro x y hd hw
    obtain ⟨w1, w2⟩ := tw_out hw
    rw [tdT_eq] at hd
    rw [ref01_Same]
    by_cases c1 : x.Sym = y.Sym
    · rw [if_pos c1]
      by_cases c2 : (x.Kids.length : Int) = y.Kids.length
      · rw [if_pos c2, rangeL, if_pos w1]
        suffices H : ∀ (us vs p : List Tree), us.length = vs.length → y.Kids = p ++ vs → tdL us < n + 1 → twL us = true →
          (us = vs ∧ rangeC (fun i1 x1 (s1 : Unit) n1 => (y.Kids[i1]?).bind fun v1 => (ref01_Same n x1 v1).bind fun v2 => if v2 = true then n1 () else some false) us p.length () (fun _ => some true) = some true) ∨
          (us ≠ vs ∧ rangeC (fun i1 x1 (s1 : Unit) n1 => (y.Kids[i1]?).bind fun v1 => (ref01_Same n x1 v1).bind fun v2 => if v2 = true then n1 () else some false) us p.length () (fun _ => some true) = some false) by
          rcases H x.Kids y.Kids [] (by omega) rfl hd w2 with ⟨e, h⟩ | ⟨e, h⟩
          · refine .inl ⟨?_, h⟩
            obtain ⟨s, k⟩ := x; obtain ⟨s', k'⟩ := y
            simp only [] at e c1
            rw [e, c1]
          · exact .inr ⟨fun ee => e (by rw [ee]), h⟩
        intro us
        induction us with
        | nil =>
          intro vs p hl _ _ _
          have : vs = [] := List.length_eq_zero_iff.1 hl.symm
          subst this
          exact .inl ⟨rfl, by rw [rangeC]⟩
        | cons a us iha =>
          intro vs p hl e h1 h2
          obtain ⟨d1, d2⟩ := tdL_cons h1
          obtain ⟨v1, v2⟩ := tw_cons h2
          match vs, hl with
          | b :: vs, hl =>
            have hb : y.Kids[p.length]? = some b := by rw [e, List.getElem?_append_right (Nat.le_refl _), Nat.sub_self]; rfl
            rw [rangeC, hb]
            simp only [Option.bind_some]
            rcases ih a b d1 v1 with ⟨e1, s1⟩ | ⟨e1, s1⟩
            · rw [s1]
              simp only [Option.bind_some, if_true]
              rcases iha vs (p ++ [b]) (by simpa using hl) (by rw [e]; simp) d2 v2 with ⟨e2, s2⟩ | ⟨e2, s2⟩
              · rw [List.length_append] at s2
                exact .inl ⟨by rw [e1, e2], s2⟩
              · rw [List.length_append] at s2
                exact .inr ⟨fun ee => e2 (List.cons.inj ee).2, s2⟩
            · rw [s1]
              exact .inr ⟨fun ee => e1 (List.cons.inj ee).1, rfl⟩
      · rw [if_neg c2]; exact .inr ⟨fun e => c2 (by rw [e]), rfl⟩
    · rw [if_neg c1]; exact .inr ⟨fun e => c1 (by rw [e]), rfl⟩
def isL (v : Int) : Bool := (decide (97 ≤ v) && decide (v ≤ 122)) || (decide (65 ≤ v) && decide (v ≤ 90))
def isD (v : Int) : Bool := decide (48 ≤ v) && decide (v ≤ 57)
theorem letter_eq (v : Int) : tree_letter v = some (isL v) := by
  unfold tree_letter isL
  repeat' split
  all_goals simp_all
  all_goals first | done | (intros; omega) | (constructor <;> intros <;> omega)
theorem rletter_eq (v : Int) : ref01_letter v = some (isL v) := by
  unfold ref01_letter isL
  repeat' split
  all_goals simp_all
  all_goals first | done | (intros; omega) | (constructor <;> intros <;> omega)
theorem digit_eq (v : Int) : tree_digit v = some (isD v) := by
  unfold tree_digit isD
  split <;> simp_all
  all_goals first | done | (intros; omega)
theorem rdigit_eq (v : Int) : ref01_digit v = some (isD v) := by
  unfold ref01_digit isD
  split <;> simp_all
  all_goals first | done | (intros; omega)
def isLD (v : UInt8) : Bool := isL (v.toNat : Int) || isD (v.toNat : Int)
theorem name_eq {n : Nat} (hn : 20 ≤ n) (s : Str) : ∃ b, tree_Name s = some b ∧ ref01_Name n s = some b := by
  unfold tree_Name ref01_Name
  by_cases c0 : s = []
  · rw [if_pos c0, if_pos c0]; exact ⟨_, rfl, rfl⟩
  rw [if_neg c0, if_neg c0]
  by_cases c1 : 12 < (s.length : Int)
  · rw [if_pos c1, if_neg (by omega)]; exact ⟨_, rfl, rfl⟩
  rw [if_neg c1, if_pos (by omega)]
  obtain ⟨a, q, rfl⟩ : ∃ a q, s = a :: q := by
    cases s with
    | nil => exact absurd rfl c0
    | cons a q => exact ⟨a, q, rfl⟩
  rw [List.length_cons] at c1
  have word : ∀ (suf pre : Str) (j : Nat), a :: q = pre ++ suf → 1 ≤ pre.length → suf.length < j → whileC (fun (s1 : Int) n1 => if s1 < ((a :: q).length : Int) then (idx (a :: q) s1).bind fun v1 => (ref01_letter (v1.toNat : Int)).bind fun v2 => if v2 = true then n1 (w64 (s1 + 1)) else if 0 < s1 then (ref01_digit (v1.toNat : Int)).bind fun v3 => if v3 = true then n1 (w64 (s1 + 1)) else some s1 else some s1 else some s1) j (pre.length : Int) = some ((pre.length : Int) + (suf.takeWhile isLD).length) := by
    intro suf
    induction suf with
    | nil =>
      intro pre j e h1 h2
      match j, h2 with
      | j + 1, _ =>
        rw [whileC]
        have : (a :: q).length = pre.length := by rw [e]; simp
        rw [if_neg (by omega)]; simp
    | cons v suf ih =>
      intro pre j e h1 h2
      match j, h2 with
      | j + 1, h2 =>
        have hlen : (a :: q).length = pre.length + (suf.length + 1) := by rw [e]; simp
        have hlen2 : (a :: q).length = q.length + 1 := rfl
        have hv : idx (a :: q) (pre.length : Int) = some v := by unfold idx; rw [if_pos (by omega), Int.toNat_natCast, e, List.getElem?_append_right (Nat.le_refl _), Nat.sub_self]; rfl
        rw [whileC, if_pos (by omega), hv]
        simp only [Option.bind_some]
        rw [rletter_eq, rdigit_eq]
        simp only [Option.bind_some]
        have next := ih (pre ++ [v]) j (by rw [e]; simp) (by simp) (by simp only [List.length_cons] at h2; omega)
        rw [List.length_append] at next
        have hw : w64 ((pre.length : Int) + 1) = ((pre.length + [v].length : Nat) : Int) := by rw [w64_eq (by omega) (by omega)]; simp
        by_cases l1 : isL (v.toNat : Int) = true
        · rw [if_pos l1, hw, next, List.takeWhile_cons, if_pos (by unfold isLD; rw [l1]; rfl)]
          congr 1; simp only [List.length_cons, List.length_nil]; omega
        · rw [if_neg l1, if_pos (by omega)]
          by_cases l2 : isD (v.toNat : Int) = true
          · rw [if_pos l2, hw, next, List.takeWhile_cons, if_pos (by unfold isLD; rw [l2]; simp)]
            congr 1; simp only [List.length_cons, List.length_nil]; omega
          · rw [if_neg l2, List.takeWhile_cons, if_neg (by unfold isLD; simp [l1, l2])]; simp
  have name : ∀ (suf pre : Str), a :: q = pre ++ suf → rangeC (fun i1 (_ : Unit) (s1 : Unit) n1 => ((a :: q)[i1]?).bind fun v3 => (tree_letter (v3.toNat : Int)).bind fun v4 => if v4 = true then n1 () else (tree_digit (v3.toNat : Int)).bind fun v5 => if v5 = true then n1 () else some false) (List.replicate suf.length ()) pre.length () (fun _ => some true) = some (decide ((suf.takeWhile isLD).length = suf.length)) := by
    intro suf
    induction suf with
    | nil => intro pre e; rfl
    | cons v suf ih =>
      intro pre e
      have hv : (a :: q)[pre.length]? = some v := by rw [e, List.getElem?_append_right (Nat.le_refl _), Nat.sub_self]; rfl
      rw [List.length_cons, List.replicate_succ, rangeC, hv]
      simp only [Option.bind_some]
      rw [letter_eq, digit_eq]
      simp only [Option.bind_some]
      have next := ih (pre ++ [v]) (by rw [e]; simp)
      rw [List.length_append] at next
      by_cases l1 : isL (v.toNat : Int) = true
      · rw [if_pos l1, List.takeWhile_cons, if_pos (by unfold isLD; rw [l1]; rfl)]
        refine next.trans ?_
        congr 1; exact decide_eq_decide.2 (by simp)
      · rw [if_neg l1]
        by_cases l2 : isD (v.toNat : Int) = true
        · rw [if_pos l2, List.takeWhile_cons, if_pos (by unfold isLD; rw [l2]; simp)]
          refine next.trans ?_
          congr 1; exact decide_eq_decide.2 (by simp)
        · rw [if_neg l2, List.takeWhile_cons, if_neg (by unfold isLD; simp [l1, l2])]
          simp
  unfold ref01_Word
  simp only [List.getElem?_cons_zero, Option.bind_some]
  rw [letter_eq]
  simp only [Option.bind_some]
  obtain ⟨m, rfl⟩ : ∃ m, n = m + 1 := ⟨n - 1, by omega⟩
  rw [whileL, whileC, if_pos (show (0 : Int) < ((a :: q).length : Int) by simp only [List.length_cons]; omega)]
  have h0 : idx (a :: q) 0 = some a := rfl
  rw [h0]
  simp only [Option.bind_some]
  rw [rletter_eq]
  simp only [Option.bind_some]
  by_cases l1 : isL (a.toNat : Int) = true
  · rw [if_pos l1, if_pos l1]
    have k := word q [a] m rfl (Nat.le_refl _) (by omega)
    rw [show w64 (0 + 1) = (([a].length : Nat) : Int) from rfl, k]
    have k2 := name (a :: q) [] rfl
    rw [rangeI, if_pos (by simp only [List.length_cons]; omega), Int.toNat_natCast]
    refine ⟨_, k2, ?_⟩
    simp only [Option.bind_some]
    rw [List.takeWhile_cons, if_pos (by unfold isLD; rw [l1]; rfl)]
    congr 1
    simp only [List.length_cons, List.length_nil]
    rw [Bool.eq_iff_iff, beq_iff_eq, decide_eq_true_eq]
    omega
  · rw [if_neg l1, if_neg l1, if_neg (by decide)]
    refine ⟨false, rfl, ?_⟩
    simp only [Option.bind_some]
    congr 1
theorem few2 {n : Nat} {r : List Int} {x y : Tree} (dx : tdT x < n) (dy : tdT y < n) (wx : twT x = true) (wy : twT y = true) :
    law01_few n ⟨r⟩ [x, y] = some (decide ((tsT x : Int) ≤ 2000) && (decide ((tsT y : Int) ≤ 2000) && decide ((r.length : Int) ≤ 40))) := by
  unfold law01_few
  rw [rangeL, if_pos (by simp only [List.length_cons, List.length_nil]; omega)]
  simp only [rangeC]
  rw [tfew_eq dx wx (by omega) (by omega), tfew_eq dy wy (by omega) (by omega)]
  simp only [Option.bind_some]
  cases decide ((tsT x : Int) ≤ 2000) <;> cases decide ((tsT y : Int) ≤ 2000) <;> rfl
theorem forms_law (m : Nat) (r : List Int) (x y : Tree) (s : Str) (dx : tdT x + 1 < m + 20) (dy : tdT y + 1 < m + 20) (wx : twT x = true) (wy : twT y = true) : law01_TreeForms (m + 20) ⟨r⟩ x y s = some true := by
  unfold law01_TreeForms
  rw [few2 (by omega) (by omega) wx wy, awake_eq]
  simp only [Option.bind_some]
  by_cases c : (decide ((tsT x : Int) ≤ 2000) && (decide ((tsT y : Int) ≤ 2000) && decide ((r.length : Int) ≤ 40))) = true
  · rw [if_pos c]
    simp only [Bool.and_eq_true, decide_eq_true_eq] at c
    obtain ⟨b, n1, n2⟩ := name_eq (n := m + 20) (by omega) s
    rw [hvA, rvA, tvalid_eq r (by omega) wx, rtvalid_eq r (by omega) wx, tree_Size_eq _ x (by omega) (by omega), ref01_Size_eq _ x (by omega) (by omega), tree_Depth_eq _ x (by omega) (by omega), ref01_Depth_eq _ x (by omega) (by omega),
      Compare_eq (x := x) (y := y) (by omega) (by omega) (by omega) (by omega), Compare_eq (x := y) (y := x) (by omega) (by omega) (by omega) (by omega), rcompare_eq _ x y (by omega) (by omega) (by omega) (by omega), n1, n2]
    simp only [Option.bind_some, if_true]
    have cr := cmpF_range (m + 20) x y
    rw [cmpF_anti (m + 20) x y, show IntKind.i64.wrap (0 - - cmpF (m + 20) x y) = cmpF (m + 20) x y by rw [wrapN] <;> omega]
    simp only [if_true]
    have z := cmpF_zero (m + 20) x y (by omega)
    rcases same_eq (m + 20) x y (by omega) wx with ⟨e, h⟩ | ⟨e, h⟩
    · rw [h]
      simp only [Option.bind_some]
      rw [beq_iff_eq.2 (z.2 e)]
      rfl
    · rw [h]
      simp only [Option.bind_some]
      rw [beq_eq_false_iff_ne.2 (fun q => e (z.1 q))]
      rfl
  · rw [if_neg c]
theorem d26 : (T.at 26).d = .sl 3 := rfl
theorem sz26 : (T.at 26).size = 1 := rfl
theorem d28 : (T.at 28).d = .st [(0, 26)] := rfl
theorem sz28 : (T.at 28).size = 1 := rfl
theorem wt28 {n : Nat} {cs : List PV} (h : wt T n 28 cs) : ∃ r : List Int, cs = [.sl none 1 (r.map rowI)] := by
  obtain ⟨m, rfl, h1, h2⟩ := wt_st d28 h
  rw [sz28] at h1
  match cs, h1 with
  | [c0], _ =>
    have f0 := h2 (0, 26) (by simp)
    simp only [sz26, List.drop_zero, List.take_succ_cons, List.take_zero] at f0
    obtain ⟨xs, e, _, _⟩ := wt_slM (row := rowI) (P := fun _ => True) d26 f0 (fun m' r _ hr => by
      obtain ⟨i, e, _⟩ := wt_int d3 hr
      exact ⟨i, e, trivial⟩)
    rw [sz3] at e
    exact ⟨xs, e⟩
theorem d9 : (T.at 9).d = .str := rfl
theorem wt9 {n : Nat} {cs : List PV} (h : wt T n 9 cs) : ∃ s : Str, cs = [.lit (.string (bs s))] := by
  cases n with
  | zero => exact h.elim
  | succ n =>
    unfold wt at h
    rw [d9] at h
    obtain ⟨s, rfl, _⟩ := h
    exact ⟨s.data.toList, by cases s; rfl⟩
theorem law5 (pss : List (List PV)) (h : wtAll T [28, 24, 24, 9] pss) : ∃ σ', call Tryd.prog T H (.fn 5) (argsOf T [28, 24, 24, 9] pss) [] = some (.ret (.p (.lit (.bool true))), σ') := by
  obtain ⟨p1, r1, rfl, ⟨n1, w1⟩, p2, r2, rfl, ⟨n2, w2⟩, p3, r3, rfl, ⟨n3, w3⟩, p4, r4, rfl, ⟨n4, w4⟩, rfl⟩ := h
  obtain ⟨r, rfl⟩ := wt28 w1
  obtain ⟨x, rfl, hx⟩ := wt24 n2 p2 w2
  obtain ⟨y, rfl, hy⟩ := wt24 n3 p3 w3
  obtain ⟨s, rfl⟩ := wt9 w4
  have := spec5 (tdT x + tdT y + 20) ⟨r⟩ x y s true (forms_law (tdT x + tdT y) r x y s (by omega) (by omega) hx hy)
  rw [row_Tree_eq, row_Tree_eq]
  exact ⟨[], this⟩
theorem closed5 : closedB T [3, 9, 22, 24, 26, 28] = true := by decide +kernel
end Go.AM.S01

namespace Go.AM.S01
open Go Go.Proofs Go.AM
set_option linter.unusedVariables false
theorem copy_eq : ∀ (n : Nat) (t : Tree), tdT t < n → tsT t ≤ 1000000 → tree_Copy n t = some t := by
  intro n
  induction n with
  | zero => intro t hd; omega
  | succ n ih =>
    intro t hd hs
    rw [tdT_eq] at hd
    have hlen := tlen t.Kids
    rw [tsT_eq] at hs
    rw [tree_Copy, rangeL, if_pos (by omega)]
    suffices H : ∀ (l : List Tree) (i : Nat) (q : List Tree) (k : List Tree → Option Tree), tdL l < n + 1 → q.length + tsL l ≤ 1000000 → rangeC (fun i1 x1 (s1 : List Tree) n1 => (tree_Copy n x1).bind fun v1 => (app 32 s1 [v1]).bind fun v2 => n1 v2) l i q k = k (q ++ l) by
      rw [H t.Kids 0 [] _ hd (by rw [List.length_nil]; omega), List.nil_append]
      cases t; rfl
    intro l
    induction l with
    | nil => intro i q k _ _; rw [rangeC, List.append_nil]
    | cons x r ihr =>
      intro i q k hd h1
      obtain ⟨d1, d2⟩ := tdL_cons hd
      have hx := tsT_eq x
      rw [tsL] at h1
      rw [rangeC, ih x d1 (by omega)]
      simp only [Option.bind_some]
      rw [app_ok (by simp only [List.length_cons, List.length_nil]; omega)]
      simp only [Option.bind_some]
      rw [ihr _ _ _ d2 (by rw [List.length_append]; simp only [List.length_cons, List.length_nil]; omega), List.append_assoc]
      rfl
def sub : Tree → List Int → Option Tree
  | t, [] => some t
  | t, i :: p => if 0 ≤ i then (t.Kids[i.toNat]?).bind fun k => sub k p else none
def subP (t : Tree) (p : List Int) : Tree × Bool := match sub t p with
  | some u => (u, true)
  | none => (⟨0, []⟩, false)
theorem sub_eq (t : Tree) (p : List Int) (hp : p.length < 9223372036854775808) : tree_sub t p = some (subP t p) := by
  unfold tree_sub
  rw [rangeL, if_pos hp]
  suffices H : ∀ (p : List Int) (t : Tree) (j : Nat), rangeC (fun i1 (x1 : Int) (s1 : Int × (List Tree)) n1 => if x1 < 0 then some ((Tree.mk 0 ([] : List Tree)), false) else if (s1.2.length : Int) ≤ x1 then some ((Tree.mk 0 ([] : List Tree)), false) else (idx s1.2 x1).bind fun v1 => n1 (v1.Sym, v1.Kids)) p j (t.Sym, t.Kids) (fun s1 => some ((Tree.mk s1.1 s1.2), true)) = some (subP t p) from H p t 0
  intro p
  induction p with
  | nil => intro t j; rw [rangeC]; unfold subP; rw [sub]; cases t; rfl
  | cons i p ih =>
    intro t j
    rw [rangeC]
    unfold subP
    rw [sub]
    dsimp only
    by_cases c1 : i < 0
    · rw [if_pos c1, if_neg (show ¬ 0 ≤ i by omega)]
    rw [if_neg c1, if_pos (show 0 ≤ i by omega)]
    by_cases c2 : (t.Kids.length : Int) ≤ i
    · rw [if_pos c2, List.getElem?_eq_none (by omega)]; rfl
    · obtain ⟨k, hk⟩ : ∃ k, t.Kids[i.toNat]? = some k := ⟨t.Kids[i.toNat]'(by omega), List.getElem?_eq_getElem (by omega)⟩
      rw [if_neg c2, show idx t.Kids i = some k by unfold idx; rw [if_pos (by omega), hk], hk]
      simp only [Option.bind_some]
      exact ih k (j + 1)
def put : Tree → List Int → Tree → Tree
  | _, [], x => x
  | t, i :: p, x => match t.Kids[i.toNat]? with
    | some k => ⟨t.Sym, t.Kids.set i.toNat (put k p x)⟩
    | none => t
theorem put_eq : ∀ (n : Nat) (t : Tree) (p : List Int) (x u : Tree), tdT t < n → p.length < n → tdT x < n → tsT t ≤ 100000 → tsT x ≤ 100000 → sub t p = some u → tdT x + p.length + 1 < n → tree_put n t p x = some (put t p x) := by
  intro n
  induction n with
  | zero => intro t p x u hd; omega
  | succ n ih =>
    intro t p x u hd hp hx hs hsx hu hxp
    rw [tree_put]
    cases p with
    | nil => rw [if_pos (show ((([] : List Int).length : Int)) = 0 from rfl), copy_eq _ x (by omega) (by omega)]; rfl
    | cons i p =>
      rw [sub] at hu
      by_cases hi : 0 ≤ i
      case neg => rw [if_neg hi] at hu; cases hu
      rw [if_pos hi] at hu
      obtain ⟨k, hk, hu⟩ := ob hu
      have hlen := tlen t.Kids
      have hts := tsT_eq t
      rw [tdT_eq] at hd
      rw [List.length_cons] at hp hxp
      rw [if_neg (by simp only [List.length_cons]; omega), rangeL, if_pos (by omega), put, hk]
      suffices H : ∀ (l pre : List Tree) (q : List Tree) (kk : List Tree → Option Tree), t.Kids = pre ++ l → q.length = pre.length → tdL l < n + 1 → pre.length + tsL l ≤ 100000 → rangeC (fun i1 x1 (s1 : (List Tree)) n1 => ((i :: p)[0]?).bind fun v2 => if (i1 : Int) = v2 then (slcF (i :: p) 1).bind fun v3 => (tree_put n x1 v3 x).bind fun v4 => (app 32 s1 [v4]).bind fun v5 => n1 v5 else (tree_Copy n x1).bind fun v6 => (app 32 s1 [v6]).bind fun v7 => n1 v7) l pre.length q kk = kk (q ++ (if pre.length ≤ i.toNat then l.set (i.toNat - pre.length) (put k p x) else l)) by
        have := H t.Kids [] [] (fun s1 => some (Tree.mk t.Sym s1)) rfl rfl hd (by rw [List.length_nil]; omega)
        rw [List.length_nil, if_pos (Nat.zero_le _), Nat.sub_zero, List.nil_append] at this
        exact this
      intro l
      induction l with
      | nil => intro pre q kk _ _ _ _; rw [rangeC]; split <;> simp
      | cons y r ihr =>
        intro pre q kk e hq h1 h2
        obtain ⟨d1, d2⟩ := tdL_cons h1
        have hy := tsT_eq y
        rw [tsL] at h2
        have e1 : slcF (i :: p) 1 = some p := by
          unfold slcF
          rw [if_pos (by simp only [List.length_cons]; omega)]; rfl
        rw [rangeC]
        simp only [List.getElem?_cons_zero, Option.bind_some, e1]
        have next := fun z => ihr (pre ++ [y]) (q ++ [z]) kk (by rw [e]; simp) (by simp [hq]) d2 (by rw [List.length_append]; simp only [List.length_cons, List.length_nil]; omega)
        simp only [List.length_append, List.length_cons, List.length_nil, Nat.zero_add, List.getElem?_cons_zero, Option.bind_some, e1] at next
        by_cases c : (pre.length : Int) = i
        · rw [if_pos c]
          have hyk : y = k := by
            have h5 : t.Kids[i.toNat]? = some y := by rw [e, ← c, Int.toNat_natCast, List.getElem?_append_right (Nat.le_refl _), Nat.sub_self]; rfl
            rw [hk] at h5; injection h5 with h5; exact h5.symm
          subst hyk
          rw [ih y p x u d1 (by omega) (by omega) (by omega) hsx hu (by omega)]
          simp only [Option.bind_some]
          rw [app_ok (by simp only [List.length_cons, List.length_nil]; omega)]
          simp only [Option.bind_some]
          rw [next, if_neg (by omega), if_pos (by omega), show i.toNat - pre.length = 0 by omega]
          simp
        · rw [if_neg c, copy_eq n y d1 (by omega)]
          simp only [Option.bind_some]
          rw [app_ok (by simp only [List.length_cons, List.length_nil]; omega)]
          simp only [Option.bind_some]
          rw [next]
          by_cases c2 : pre.length ≤ i.toNat
          · rw [if_pos c2, if_pos (by omega), show i.toNat - pre.length = (i.toNat - (pre.length + 1)) + 1 by omega]
            simp
          · rw [if_neg c2, if_neg (by omega)]; simp
end Go.AM.S01

namespace Go.AM.S01
open Go Go.Proofs Go.AM
set_option linter.unusedVariables false
theorem tsL_set : ∀ (l : List Tree) (i : Nat) (k z : Tree), l[i]? = some k → tsL (l.set i z) + tsT k = tsL l + tsT z
  | [], i, k, z, h => by simp at h
  | a :: l, 0, k, z, h => by
    injection h with h; subst h
    rw [List.set_cons_zero, tsL, tsL]; omega
  | a :: l, i + 1, k, z, h => by
    rw [List.getElem?_cons_succ] at h
    have := tsL_set l i k z h
    rw [List.set_cons_succ, tsL, tsL]; omega
theorem shL_set (r : List Int) : ∀ (l : List Tree) (i : Nat) (z : Tree), shL r l = true → shT r z = true → shL r (l.set i z) = true
  | [], i, z, h, hz => by rw [List.set_nil]; exact h
  | a :: l, 0, z, h, hz => by
    rw [shL, Bool.and_eq_true] at h
    rw [List.set_cons_zero, shL, hz, h.2]; rfl
  | a :: l, i + 1, z, h, hz => by
    rw [shL, Bool.and_eq_true] at h
    rw [List.set_cons_succ, shL, h.1, shL_set r l i z h.2 hz]; rfl
theorem shL_get (r : List Int) : ∀ (l : List Tree) (i : Nat) (k : Tree), shL r l = true → l[i]? = some k → shT r k = true
  | [], i, k, _, h => by simp at h
  | a :: l, 0, k, hs, h => by injection h with h; subst h; rw [shL, Bool.and_eq_true] at hs; exact hs.1
  | a :: l, i + 1, k, hs, h => by rw [shL, Bool.and_eq_true] at hs; exact shL_get r l i k hs.2 (by simpa using h)
theorem tsL_get : ∀ (l : List Tree) (i : Nat) (k : Tree), l[i]? = some k → tsT k ≤ tsL l
  | [], i, k, h => by simp at h
  | a :: l, 0, k, h => by injection h with h; subst h; rw [tsL]; omega
  | a :: l, i + 1, k, h => by have := tsL_get l i k (by simpa using h); rw [tsL]; omega
mutual
theorem twT_of : ∀ t : Tree, tsT t < 9223372036854775808 → twT t = true
  | .mk s k, h => by
    rw [tsT] at h
    have := tlen k
    rw [twT, decide_eq_true (by omega), twL_of k (by omega)]; rfl
theorem twL_of : ∀ l : List Tree, tsL l < 9223372036854775808 → twL l = true
  | [], _ => by rw [twL]
  | x :: r, h => by
    rw [tsL] at h
    rw [twL, twT_of x (by omega), twL_of r (by omega)]; rfl
end
theorem sub_step {t : Tree} {i : Int} {p : List Int} {u : Tree} (h : sub t (i :: p) = some u) : 0 ≤ i ∧ ∃ k, t.Kids[i.toNat]? = some k ∧ sub k p = some u := by
  rw [sub] at h
  by_cases hi : 0 ≤ i
  · rw [if_pos hi] at h
    obtain ⟨k, h1, h2⟩ := ob h
    exact ⟨hi, k, h1, h2⟩
  · rw [if_neg hi] at h; cases h
theorem put_all (r : List Int) : ∀ (p : List Int) (t u x : Tree), sub t p = some u →
    sub (put t p x) p = some x ∧ put t p u = t ∧ tsT u ≤ tsT t ∧ tsT (put t p x) ≤ tsT t + tsT x ∧ (shT r t = true → shT r u = true ∧ (shT r x = true → shT r (put t p x) = true))
  | [], t, u, x, h => by
    injection h with h; subst h
    exact ⟨rfl, rfl, Nat.le_refl _, by rw [put]; omega, fun hs => ⟨hs, fun hx => hx⟩⟩
  | i :: p, t, u, x, h => by
    obtain ⟨hi, k, hk, hu⟩ := sub_step h
    obtain ⟨q1, q2, q3, q4, q5⟩ := put_all r p k u x hu
    have hlt := (List.getElem?_eq_some_iff.1 hk).1
    have e1 : put t (i :: p) x = ⟨t.Sym, t.Kids.set i.toNat (put k p x)⟩ := by rw [put, hk]
    have e2 : put t (i :: p) u = ⟨t.Sym, t.Kids.set i.toNat (put k p u)⟩ := by rw [put, hk]
    have hts := tsT_eq t
    have hg := tsL_get _ _ _ hk
    have hset := tsL_set t.Kids i.toNat k (put k p x) hk
    refine ⟨?_, ?_, by omega, ?_, fun hs => ?_⟩
    · rw [e1, sub, if_pos hi]
      simp only []
      rw [List.getElem?_set_self hlt]
      exact q1
    · rw [e2, q2]
      have : t.Kids.set i.toNat k = t.Kids := by
        apply List.ext_getElem?
        intro j
        by_cases e : i.toNat = j
        · subst e; rw [List.getElem?_set_self hlt, hk]
        · rw [List.getElem?_set_ne e]
      rw [this]; cases t; rfl
    · rw [e1, tsT]; omega
    · rw [shT_eq, Bool.and_eq_true] at hs
      have hk2 := q5 (shL_get r _ _ _ hs.2 hk)
      refine ⟨hk2.1, fun hx => ?_⟩
      rw [e1, shT, Bool.and_eq_true, List.length_set]
      exact ⟨hs.1, shL_set r _ _ _ hs.2 (hk2.2 hx)⟩
theorem tvld_le {r : List Int} {t : Tree} (c : tvld r t = true) : vA r = true ∧ tsT t ≤ 300 ∧ shT r t = true := by
  unfold tvld at c
  simp only [Bool.and_eq_true, decide_eq_true_eq] at c
  exact ⟨c.1, by omega, c.2.2⟩
theorem tvld_mk {r : List Int} {t : Tree} (h1 : vA r = true) (h2 : tsT t ≤ 300) (h3 : shT r t = true) : tvld r t = true := by
  unfold tvld; rw [h1, h3, decide_eq_true (by omega)]; rfl
def atP (r : List Int) (t : Tree) (p : List Int) : Tree × Int := if tvld r t = true then (match sub t p with | some u => (u, 0) | none => (⟨0, []⟩, 5)) else (⟨0, []⟩, 1)
theorem at_eq {n : Nat} {r : List Int} {t : Tree} {p : List Int} (hd : tdT t < n) (hn : 1000 ≤ n) (hw : twT t = true) (hp : p.length ≤ 400) : tree_At n ⟨r⟩ t p = some (atP r t p) := by
  unfold tree_At atP
  rw [tvalid_eq r hd hw]
  simp only [Option.bind_some]
  by_cases c : tvld r t = true
  · obtain ⟨_, c2, _⟩ := tvld_le c
    rw [if_pos c, if_pos c, sub_eq t p (by omega)]
    unfold subP
    cases hu : sub t p with
    | none => rfl
    | some u =>
      simp only [Option.bind_some, if_true]
      have h1 := (put_all r p t u u hu).2.2.1
      have h2 := td_le u
      rw [copy_eq n u (by omega) (by omega)]
      rfl
  · rw [if_neg c, if_neg c]
def putP (r : List Int) (t : Tree) (p : List Int) (x : Tree) : Tree × Int := if tvld r t = true ∧ tvld r x = true then (match sub t p with | some _ => if (300 : Int) < tsT (put t p x) then (⟨0, []⟩, 3) else (put t p x, 0) | none => (⟨0, []⟩, 5)) else (⟨0, []⟩, 1)
theorem putf_eq {n : Nat} {r : List Int} {t x : Tree} {p : List Int} (hd : tdT t < n) (hx : tdT x < n) (hn : 1000 ≤ n) (hw : twT t = true) (hwx : twT x = true) (hp : p.length ≤ 400) : tree_Put n ⟨r⟩ t p x = some (putP r t p x) := by
  unfold tree_Put putP
  rw [tvalid_eq r hd hw, tvalid_eq r hx hwx]
  simp only [Option.bind_some]
  by_cases c : tvld r t = true
  · rw [if_pos c]
    by_cases c' : tvld r x = true
    · obtain ⟨_, c2, _⟩ := tvld_le c
      obtain ⟨_, c3, _⟩ := tvld_le c'
      rw [if_pos c', if_pos ⟨c, c'⟩, sub_eq t p (by omega)]
      unfold subP
      cases hu : sub t p with
      | none => rfl
      | some u =>
        simp only [Option.bind_some, if_true]
        have h1 := td_le x
        have h2 := (put_all r p t u x hu).2.2.2.1
        have h3 := td_le (put t p x)
        rw [put_eq n t p x u hd (by omega) hx (by omega) (by omega) hu (by omega)]
        simp only [Option.bind_some]
        rw [tree_Size_eq n _ (by omega) (by omega)]
        simp only [Option.bind_some]
        split <;> rfl
    · rw [if_neg c', if_neg (fun h => c' h.2)]
  · rw [if_neg c, if_neg (fun h => c h.1)]
theorem puts_law (m : Nat) (r : List Int) (t x : Tree) (p : List Int) (dt : tdT t < m + 1020) (dx : tdT x < m + 1020) (wt : twT t = true) (wx : twT x = true) : law01_TreePuts (m + 1020) ⟨r⟩ t x p = some true := by
  unfold law01_TreePuts
  rw [few2 dt dx wt wx, show m + 1020 = (m + 1000) + 20 from rfl, awake_eq, show m + 1000 + 20 = m + 1020 from rfl]
  simp only [Option.bind_some]
  by_cases c : (decide ((tsT t : Int) ≤ 2000) && (decide ((tsT x : Int) ≤ 2000) && decide ((r.length : Int) ≤ 40))) = true
  · rw [if_pos c]
    by_cases c1 : 400 < (p.length : Int)
    · rw [if_pos c1]
    rw [if_neg c1, putf_eq dt dx (by omega) wt wx (by omega), at_eq dt (by omega) wt (by omega)]
    simp only [Option.bind_some]
    have back : (if (atP r t p).2 = 0 then (tree_Put (m + 1020) ⟨r⟩ t p (atP r t p).1).bind fun v12 => if v12.2 = 0 then (ref01_Same (m + 1020) v12.1 t).bind fun v13 => if v13 = true then some true else some false else some false else some true) = some true := by
      unfold atP
      by_cases k1 : tvld r t = true
      · obtain ⟨a1, a2, a3⟩ := tvld_le k1
        rw [if_pos k1]
        cases hu : sub t p with
        | none => rw [if_neg (by simp)]
        | some u =>
          simp only [if_true]
          obtain ⟨q1, q2, q3, q4, q5⟩ := put_all r p t u u hu
          have d1 := td_le u
          rw [putf_eq dt (by omega) (by omega) wt (twT_of u (by omega)) (by omega)]
          unfold putP
          rw [if_pos ⟨k1, tvld_mk a1 (by omega) (q5 a3).1⟩, hu]
          simp only [Option.bind_some]
          rw [q2, if_neg (show ¬ (300 : Int) < tsT t by omega)]
          simp only [if_true]
          rcases same_eq (m + 1020) t t dt wt with ⟨_, h⟩ | ⟨e, _⟩
          · rw [h]; rfl
          · exact absurd rfl e
      · rw [if_neg k1, if_neg (by simp)]
    by_cases k : (putP r t p x).2 = 0
    · rw [if_pos k]
      have fwd : sub t p ≠ none ∧ (putP r t p x).1 = put t p x ∧ tvld r t = true ∧ tvld r x = true ∧ tsT (put t p x) ≤ 300 := by
        revert k
        unfold putP
        by_cases k1 : tvld r t = true ∧ tvld r x = true
        · rw [if_pos k1]
          cases hu : sub t p with
          | none => intro k; simp at k
          | some u =>
            simp only []
            by_cases k2 : (300 : Int) < tsT (put t p x)
            · rw [if_pos k2]; intro k; simp at k
            · rw [if_neg k2]; intro _; exact ⟨by simp, rfl, k1.1, k1.2, by omega⟩
        · rw [if_neg k1]; intro k; simp at k
      obtain ⟨f1, f2, f3, f4, f5⟩ := fwd
      obtain ⟨u, hu⟩ := Option.ne_none_iff_exists'.1 f1
      obtain ⟨q1, q2, q3, q4, q5⟩ := put_all r p t u x hu
      obtain ⟨a1, a2, a3⟩ := tvld_le f3
      obtain ⟨b1, b2, b3⟩ := tvld_le f4
      have d1 := td_le (put t p x)
      rw [f2, at_eq (by omega) (by omega) (twT_of _ (by omega)) (by omega)]
      simp only [Option.bind_some]
      have e : atP r (put t p x) p = (x, 0) := by
        unfold atP
        rw [if_pos (tvld_mk a1 f5 ((q5 a3).2 b3)), q1]
      rw [e]
      simp only [if_true]
      rcases same_eq (m + 1020) x x dx wx with ⟨_, h⟩ | ⟨e, _⟩
      · rw [h]
        simp only [Option.bind_some, if_true]
        exact back
      · exact absurd rfl e
    · rw [if_neg k]
      exact back
  · rw [if_neg c]
theorem law7 (pss : List (List PV)) (h : wtAll T [28, 24, 24, 26] pss) : ∃ σ', call Tryd.prog T H (.fn 7) (argsOf T [28, 24, 24, 26] pss) [] = some (.ret (.p (.lit (.bool true))), σ') := by
  obtain ⟨p1, r1, rfl, ⟨n1, w1⟩, p2, r2, rfl, ⟨n2, w2⟩, p3, r3, rfl, ⟨n3, w3⟩, p4, r4, rfl, ⟨n4, w4⟩, rfl⟩ := h
  obtain ⟨r, rfl⟩ := wt28 w1
  obtain ⟨x, rfl, hx⟩ := wt24 n2 p2 w2
  obtain ⟨y, rfl, hy⟩ := wt24 n3 p3 w3
  obtain ⟨p, e, _, _⟩ := wt_slM (row := rowI) (P := fun _ => True) d26 w4 (fun m' q _ hr => by
    obtain ⟨i, e, _⟩ := wt_int d3 hr
    exact ⟨i, e, trivial⟩)
  rw [sz3] at e
  subst e
  have := spec7 (tdT x + tdT y + 1020) ⟨r⟩ x y p true (puts_law (tdT x + tdT y) r x y p (by omega) (by omega) hx hy)
  rw [row_Tree_eq, row_Tree_eq]
  exact ⟨[], this⟩
theorem closed7 : closedB T [3, 22, 24, 26, 28] = true := by decide +kernel
end Go.AM.S01

namespace Go.AM.S01
open Go Go.Proofs Go.AM
set_option maxRecDepth 100000
set_option linter.unusedVariables false
set_option maxHeartbeats 4000000


def ref01_Replace : Nat → Tree → (List Int) → Tree → Option Tree
  | 0, _, _, _ => none
  | n + 1, a0, a1, a2 =>
    if (a1.length : Int) = 0 then
      some a2
    else
      (appM 32 0 ([] : List Tree) a0.Kids).bind fun v1 =>
      (a1[0]?).bind fun v2 =>
      (idxM v1.length v1 v2).bind fun v3 =>
      (slcF a1 1).bind fun v4 =>
      (ref01_Replace n v3 v4 a2).bind fun v5 =>
      (tkM v1.length (List.set v1 ((v2).toNat) v5)).bind fun v6 =>
      some (Tree.mk a0.Sym v6)
theorem spec62 : ∀ (n : Nat), (∀ (a0 : Tree) (a1 : List Int) (a2 : Tree) (r : Tree), ref01_Replace n a0 a1 a2 = some r →
    call Tryd.prog T H (.fn 62) [.p (.agg [iv a0.Sym, .sl none 2 (List.map row_Tree a0.Kids)]), .p (.sl none 1 (List.map rowI a1)), .p (.agg [iv a2.Sym, .sl none 2 (List.map row_Tree a2.Kids)])] [] = some (.ret (.p (.agg [iv r.Sym, .sl none 2 (List.map row_Tree r.Kids)])), [])) := by
  intro n
  induction n with
  | zero => intro a0 a1 a2 r h; cases h
  | succ n ih =>
    intro a0 a1 a2 r h
    refine Sat.fn fun Q hQ => ?_
    rw [ref01_Replace] at h
    rw [call62]
    conv => arg 1; arg 7; unfold S01.c62 Tryd.f62; simp only [Option.getD_some]
    by_cases c1 : (a1.length : Int) = 0
    · have h := iteT h c1
      have c1b : ((a1.length : Int) == 0) = true := beqT c1
      simp only [go_sem, c1b]
      injection h with h; subst h
      exact Sat.ok hQ
    · have h := iteF h c1
      have c1b : ((a1.length : Int) == 0) = false := beqF c1
      obtain ⟨v1, e_v1, h⟩ := ob h
      have e_v1a := (appM_some e_v1).1
      have e_v1b : boundOk (v1.length) 32 = true := bnd_of (by have := (appM_some e_v1).2.1; rw [← (appM_some e_v1).2.2]; simpa using this) (by decide)
      have e_v1c : (List.map (rowA row_Tree) a0.Kids) = List.map (rowA row_Tree) v1 := by rw [← (appM_some e_v1).2.2]; simp [rowA, row_Tree_eq]
      obtain ⟨v2, e_v2, h⟩ := ob h
      obtain ⟨v3, e_v3, h⟩ := ob h
      obtain ⟨e_v3a, e_v3b, e_v3d⟩ := idxM_some e_v3
      obtain ⟨v4, e_v4, h⟩ := ob h
      obtain ⟨e_v41, e_v42, e_v43, e_v44⟩ := slcF_some e_v4
      simp only [Int.reduceToNat] at e_v42
      simp only [Int.reduceToNat] at e_v44
      obtain ⟨v5, e_v5, h⟩ := ob h
      have e_v5c : call Tryd.prog T H (.fn 62) [.p (.agg [iv v3.Sym, .sl none 2 (List.map row_Tree v3.Kids)]), .p (.sl none 1 (List.map rowI v4)), .p (.agg [iv a2.Sym, .sl none 2 (List.map row_Tree a2.Kids)])] [] = some (.ret (.p (.agg [iv v5.Sym, .sl none 2 (List.map row_Tree v5.Kids)])), []) := ih v3 v4 a2 v5 e_v5
      have e_y1 : List.set (List.map (rowA row_Tree) v1) ((v2).toNat) [.p (iv v5.Sym), .p (.sl none 2 (List.map row_Tree v5.Kids))] = List.map (rowA row_Tree) (List.set v1 ((v2).toNat) v5) := map_set' (by first | rfl | simp only [go_sem, List.map_cons, List.map_nil])
      obtain ⟨v6, e_v6, h⟩ := ob h
      have e_v6a := (tkM_some e_v6).1
      have e_v6b := (tkM_some e_v6).2
      simp only [go_sem, c1b, e_v1b, e_v1c, e_v2, e_v3a, e_v3b, e_v3d, e_v42, ← e_v44, e_v5c, e_y1, e_v6a, e_v6b]
      injection h with h; subst h
      exact Sat.ok hQ

def ref01_Put (n : Nat) (a0 : Alphabet) (a1 : Tree) (a2 : List Int) (a3 : Tree) : Option (Tree × Int) :=
  (ref01_Valid n a0 a1).bind fun v1 =>
  if v1 = true then
    (ref01_Valid n a0 a3).bind fun v2 =>
    if v2 = true then
      (ref01_Find a1 a2).bind fun v3 =>
      if v3.2 = true then
        (ref01_Replace n a1 a2 a3).bind fun v4 =>
        (ref01_Few n v4 300).bind fun v5 =>
        if v5 = true then
          some (v4, 0)
        else
          some ((Tree.mk 0 ([] : List Tree)), 3)
      else
        some ((Tree.mk 0 ([] : List Tree)), 5)
    else
      some ((Tree.mk 0 ([] : List Tree)), 1)
  else
    some ((Tree.mk 0 ([] : List Tree)), 1)
theorem spec32 (n : Nat) (a0 : Alphabet) (a1 : Tree) (a2 : List Int) (a3 : Tree) (r : Tree × Int) (h : ref01_Put n a0 a1 a2 a3 = some r) :
    call Tryd.prog T H (.fn 32) [.p (.agg [.sl none 1 (List.map rowI a0.Ranks)]), .p (.agg [iv a1.Sym, .sl none 2 (List.map row_Tree a1.Kids)]), .p (.sl none 1 (List.map rowI a2)), .p (.agg [iv a3.Sym, .sl none 2 (List.map row_Tree a3.Kids)])] [] = some (.ret (.p (.tup [.agg [iv r.1.Sym, .sl none 2 (List.map row_Tree r.1.Kids)], iv r.2])), []) := by
  refine Sat.fn fun Q hQ => ?_
  unfold ref01_Put at h
  rw [call32]
  conv => arg 1; arg 7; unfold S01.c32 Tryd.f32; simp only [Option.getD_some]
  obtain ⟨v1, e_v1, h⟩ := ob h
  have e_v1c : call Tryd.prog T H (.fn 18) [.p (.agg [.sl none 1 (List.map rowI a0.Ranks)]), .p (.agg [iv a1.Sym, .sl none 2 (List.map row_Tree a1.Kids)])] [] = some (.ret (.p (bv v1)), []) := spec18 n a0 a1 v1 e_v1
  by_cases c1 : v1 = true
  · have h := iteT h c1
    obtain ⟨v2, e_v2, h⟩ := ob h
    have e_v2c : call Tryd.prog T H (.fn 18) [.p (.agg [.sl none 1 (List.map rowI a0.Ranks)]), .p (.agg [iv a3.Sym, .sl none 2 (List.map row_Tree a3.Kids)])] [] = some (.ret (.p (bv v2)), []) := spec18 n a0 a3 v2 e_v2
    by_cases c2 : v2 = true
    · have h := iteT h c2
      obtain ⟨v3, e_v3, h⟩ := ob h
      have e_v3c : call Tryd.prog T H (.fn 60) [.p (.agg [iv a1.Sym, .sl none 2 (List.map row_Tree a1.Kids)]), .p (.sl none 1 (List.map rowI a2))] [] = some (.ret (.p (.tup [.agg [iv v3.1.Sym, .sl none 2 (List.map row_Tree v3.1.Kids)], bv v3.2])), []) := spec60 a1 a2 v3 e_v3
      by_cases c3 : v3.2 = true
      · have h := iteT h c3
        obtain ⟨v4, e_v4, h⟩ := ob h
        have e_v4c : call Tryd.prog T H (.fn 62) [.p (.agg [iv a1.Sym, .sl none 2 (List.map row_Tree a1.Kids)]), .p (.sl none 1 (List.map rowI a2)), .p (.agg [iv a3.Sym, .sl none 2 (List.map row_Tree a3.Kids)])] [] = some (.ret (.p (.agg [iv v4.Sym, .sl none 2 (List.map row_Tree v4.Kids)])), []) := spec62 n a1 a2 a3 v4 e_v4
        obtain ⟨v5, e_v5, h⟩ := ob h
        have e_v5c : call Tryd.prog T H (.fn 38) [.p (.agg [iv v4.Sym, .sl none 2 (List.map row_Tree v4.Kids)]), .p (iv 300)] [] = some (.ret (.p (bv v5)), []) := spec38 n v4 300 v5 e_v5
        by_cases c4 : v5 = true
        · have h := iteT h c4
          simp only [go_sem, e_v1c, c1, e_v2c, c2, e_v3c, c3, e_v4c, e_v5c, c4]
          injection h with h; subst h
          exact Sat.ok hQ
        · have h := iteF h c4
          have c4 := eq_false_of_ne_true c4
          simp only [go_sem, e_v1c, c1, e_v2c, c2, e_v3c, c3, e_v4c, e_v5c, c4]
          injection h with h; subst h
          exact Sat.ok hQ
      · have h := iteF h c3
        have c3 := eq_false_of_ne_true c3
        simp only [go_sem, e_v1c, c1, e_v2c, c2, e_v3c, c3]
        injection h with h; subst h
        exact Sat.ok hQ
    · have h := iteF h c2
      have c2 := eq_false_of_ne_true c2
      simp only [go_sem, e_v1c, c1, e_v2c, c2]
      injection h with h; subst h
      exact Sat.ok hQ
  · have h := iteF h c1
    have c1 := eq_false_of_ne_true c1
    simp only [go_sem, e_v1c, c1]
    injection h with h; subst h
    exact Sat.ok hQ

def law01_TreePlaces (n : Nat) (a0 : Alphabet) (a1 : Tree) (a2 : Tree) (a3 : List Int) : Option Bool :=
  (law01_few n a0 [a1, a2]).bind fun v1 =>
  if v1 = true then
    if 400 < (a3.length : Int) then
      (law01_awake n).bind fun v2 =>
      some v2
    else
      (tree_Positions n a0 a1).bind fun v3 =>
      (ref01_Positions n a0 a1).bind fun v4 =>
      (tree_At n a0 a1 a3).bind fun v5 =>
      (ref01_At n a0 a1 a3).bind fun v6 =>
      (tree_Put n a0 a1 a3 a2).bind fun v7 =>
      (ref01_Put n a0 a1 a3 a2).bind fun v8 =>
      if v3.2 = v4.2 then
        (ref01_SameLists v3.1 v4.1).bind fun v9 =>
        if v9 = true then
          if v5.2 = v6.2 then
            (ref01_Same n v5.1 v6.1).bind fun v10 =>
            if v10 = true then
              if v7.2 = v8.2 then
                (ref01_Same n v7.1 v8.1).bind fun v11 =>
                if v11 = true then
                  (law01_awake n).bind fun v12 =>
                  some v12
                else
                  some false
              else
                some false
            else
              some false
          else
            some false
        else
          some false
      else
        some false
  else
    (law01_awake n).bind fun v13 =>
    some v13
theorem spec6 (n : Nat) (a0 : Alphabet) (a1 : Tree) (a2 : Tree) (a3 : List Int) (r : Bool) (h : law01_TreePlaces n a0 a1 a2 a3 = some r) :
    call Tryd.prog T H (.fn 6) [.p (.agg [.sl none 1 (List.map rowI a0.Ranks)]), .p (.agg [iv a1.Sym, .sl none 2 (List.map row_Tree a1.Kids)]), .p (.agg [iv a2.Sym, .sl none 2 (List.map row_Tree a2.Kids)]), .p (.sl none 1 (List.map rowI a3))] [] = some (.ret (.p (bv r)), []) := by
  refine Sat.fn fun Q hQ => ?_
  unfold law01_TreePlaces at h
  rw [call6]
  conv => arg 1; arg 7; unfold S01.c6 Tryd.f6; simp only [Option.getD_some]
  obtain ⟨v1, e_v1, h⟩ := ob h
  have e_v1c : call Tryd.prog T H (.fn 9) [.p (.agg [.sl none 1 (List.map rowI a0.Ranks)]), .p (.sl none 2 [[iv a1.Sym, .sl none 2 (List.map row_Tree a1.Kids)], [iv a2.Sym, .sl none 2 (List.map row_Tree a2.Kids)]])] [] = some (.ret (.p (bv v1)), []) := by have q := spec9 n a0 [a1, a2] v1 e_v1; simp only [List.map_cons, List.map_nil, row_Tree_eq] at q ⊢; exact q
  by_cases c1 : v1 = true
  · have h := iteT h c1
    by_cases c2 : 400 < (a3.length : Int)
    · have h := iteT h c2
      obtain ⟨v2, e_v2, h⟩ := ob h
      have e_v2c : call Tryd.prog T H (.fn 10) [] [] = some (.ret (.p (bv v2)), []) := spec10 n v2 e_v2
      simp only [go_sem, e_v1c, c1, c2, e_v2c]
      injection h with h; subst h
      exact Sat.ok hQ
    · have h := iteF h c2
      obtain ⟨v3, e_v3, h⟩ := ob h
      have e_v3c : call Tryd.prog T H (.fn 27) [.p (.agg [.sl none 1 (List.map rowI a0.Ranks)]), .p (.agg [iv a1.Sym, .sl none 2 (List.map row_Tree a1.Kids)])] [] = some (.ret (.p (.tup [.sl none 1 (List.map (rowL 1 rowI) v3.1), iv v3.2])), []) := spec27 n a0 a1 v3 e_v3
      obtain ⟨v4, e_v4, h⟩ := ob h
      have e_v4c : call Tryd.prog T H (.fn 28) [.p (.agg [.sl none 1 (List.map rowI a0.Ranks)]), .p (.agg [iv a1.Sym, .sl none 2 (List.map row_Tree a1.Kids)])] [] = some (.ret (.p (.tup [.sl none 1 (List.map (rowL 1 rowI) v4.1), iv v4.2])), []) := spec28 n a0 a1 v4 e_v4
      obtain ⟨v5, e_v5, h⟩ := ob h
      have e_v5c : call Tryd.prog T H (.fn 29) [.p (.agg [.sl none 1 (List.map rowI a0.Ranks)]), .p (.agg [iv a1.Sym, .sl none 2 (List.map row_Tree a1.Kids)]), .p (.sl none 1 (List.map rowI a3))] [] = some (.ret (.p (.tup [.agg [iv v5.1.Sym, .sl none 2 (List.map row_Tree v5.1.Kids)], iv v5.2])), []) := spec29 n a0 a1 a3 v5 e_v5
      obtain ⟨v6, e_v6, h⟩ := ob h
      have e_v6c : call Tryd.prog T H (.fn 30) [.p (.agg [.sl none 1 (List.map rowI a0.Ranks)]), .p (.agg [iv a1.Sym, .sl none 2 (List.map row_Tree a1.Kids)]), .p (.sl none 1 (List.map rowI a3))] [] = some (.ret (.p (.tup [.agg [iv v6.1.Sym, .sl none 2 (List.map row_Tree v6.1.Kids)], iv v6.2])), []) := spec30 n a0 a1 a3 v6 e_v6
      obtain ⟨v7, e_v7, h⟩ := ob h
      have e_v7c : call Tryd.prog T H (.fn 31) [.p (.agg [.sl none 1 (List.map rowI a0.Ranks)]), .p (.agg [iv a1.Sym, .sl none 2 (List.map row_Tree a1.Kids)]), .p (.sl none 1 (List.map rowI a3)), .p (.agg [iv a2.Sym, .sl none 2 (List.map row_Tree a2.Kids)])] [] = some (.ret (.p (.tup [.agg [iv v7.1.Sym, .sl none 2 (List.map row_Tree v7.1.Kids)], iv v7.2])), []) := spec31 n a0 a1 a3 a2 v7 e_v7
      obtain ⟨v8, e_v8, h⟩ := ob h
      have e_v8c : call Tryd.prog T H (.fn 32) [.p (.agg [.sl none 1 (List.map rowI a0.Ranks)]), .p (.agg [iv a1.Sym, .sl none 2 (List.map row_Tree a1.Kids)]), .p (.sl none 1 (List.map rowI a3)), .p (.agg [iv a2.Sym, .sl none 2 (List.map row_Tree a2.Kids)])] [] = some (.ret (.p (.tup [.agg [iv v8.1.Sym, .sl none 2 (List.map row_Tree v8.1.Kids)], iv v8.2])), []) := spec32 n a0 a1 a3 a2 v8 e_v8
      by_cases c3 : v3.2 = v4.2
      · have h := iteT h c3
        have c3b : (v3.2 == v4.2) = true := beqT c3
        obtain ⟨v9, e_v9, h⟩ := ob h
        have e_v9c : call Tryd.prog T H (.fn 33) [.p (.sl none 1 (List.map (rowL 1 rowI) v3.1)), .p (.sl none 1 (List.map (rowL 1 rowI) v4.1))] [] = some (.ret (.p (bv v9)), []) := spec33 v3.1 v4.1 v9 e_v9
        by_cases c4 : v9 = true
        · have h := iteT h c4
          by_cases c5 : v5.2 = v6.2
          · have h := iteT h c5
            have c5b : (v5.2 == v6.2) = true := beqT c5
            obtain ⟨v10, e_v10, h⟩ := ob h
            have e_v10c : call Tryd.prog T H (.fn 24) [.p (.agg [iv v5.1.Sym, .sl none 2 (List.map row_Tree v5.1.Kids)]), .p (.agg [iv v6.1.Sym, .sl none 2 (List.map row_Tree v6.1.Kids)])] [] = some (.ret (.p (bv v10)), []) := spec24 n v5.1 v6.1 v10 e_v10
            by_cases c6 : v10 = true
            · have h := iteT h c6
              by_cases c7 : v7.2 = v8.2
              · have h := iteT h c7
                have c7b : (v7.2 == v8.2) = true := beqT c7
                obtain ⟨v11, e_v11, h⟩ := ob h
                have e_v11c : call Tryd.prog T H (.fn 24) [.p (.agg [iv v7.1.Sym, .sl none 2 (List.map row_Tree v7.1.Kids)]), .p (.agg [iv v8.1.Sym, .sl none 2 (List.map row_Tree v8.1.Kids)])] [] = some (.ret (.p (bv v11)), []) := spec24 n v7.1 v8.1 v11 e_v11
                by_cases c8 : v11 = true
                · have h := iteT h c8
                  obtain ⟨v12, e_v12, h⟩ := ob h
                  have e_v12c : call Tryd.prog T H (.fn 10) [] [] = some (.ret (.p (bv v12)), []) := spec10 n v12 e_v12
                  simp only [go_sem, e_v1c, c1, c2, e_v3c, e_v4c, e_v5c, e_v6c, e_v7c, e_v8c, c3b, e_v9c, c4, c5b, e_v10c, c6, c7b, e_v11c, c8, e_v12c]
                  injection h with h; subst h
                  exact Sat.ok hQ
                · have h := iteF h c8
                  have c8 := eq_false_of_ne_true c8
                  simp only [go_sem, e_v1c, c1, c2, e_v3c, e_v4c, e_v5c, e_v6c, e_v7c, e_v8c, c3b, e_v9c, c4, c5b, e_v10c, c6, c7b, e_v11c, c8]
                  injection h with h; subst h
                  exact Sat.ok hQ
              · have h := iteF h c7
                have c7b : (v7.2 == v8.2) = false := beqF c7
                simp only [go_sem, e_v1c, c1, c2, e_v3c, e_v4c, e_v5c, e_v6c, e_v7c, e_v8c, c3b, e_v9c, c4, c5b, e_v10c, c6, c7b]
                injection h with h; subst h
                exact Sat.ok hQ
            · have h := iteF h c6
              have c6 := eq_false_of_ne_true c6
              simp only [go_sem, e_v1c, c1, c2, e_v3c, e_v4c, e_v5c, e_v6c, e_v7c, e_v8c, c3b, e_v9c, c4, c5b, e_v10c, c6]
              injection h with h; subst h
              exact Sat.ok hQ
          · have h := iteF h c5
            have c5b : (v5.2 == v6.2) = false := beqF c5
            simp only [go_sem, e_v1c, c1, c2, e_v3c, e_v4c, e_v5c, e_v6c, e_v7c, e_v8c, c3b, e_v9c, c4, c5b]
            injection h with h; subst h
            exact Sat.ok hQ
        · have h := iteF h c4
          have c4 := eq_false_of_ne_true c4
          simp only [go_sem, e_v1c, c1, c2, e_v3c, e_v4c, e_v5c, e_v6c, e_v7c, e_v8c, c3b, e_v9c, c4]
          injection h with h; subst h
          exact Sat.ok hQ
      · have h := iteF h c3
        have c3b : (v3.2 == v4.2) = false := beqF c3
        simp only [go_sem, e_v1c, c1, c2, e_v3c, e_v4c, e_v5c, e_v6c, e_v7c, e_v8c, c3b]
        injection h with h; subst h
        exact Sat.ok hQ
  · have h := iteF h c1
    have c1 := eq_false_of_ne_true c1
    obtain ⟨v13, e_v13, h⟩ := ob h
    have e_v13c : call Tryd.prog T H (.fn 10) [] [] = some (.ret (.p (bv v13)), []) := spec10 n v13 e_v13
    simp only [go_sem, e_v1c, c1, e_v13c]
    injection h with h; subst h
    exact Sat.ok hQ

end Go.AM.S01

namespace Go.AM.S01
open Go Go.Proofs Go.AM
set_option linter.unusedVariables false
mutual
def plT : Tree → List (List Int)
  | .mk _ k => [] :: plL 0 k
def plL : Nat → List Tree → List (List Int)
  | _, [] => []
  | i, x :: r => (plT x).map (fun p => (i : Int) :: p) ++ plL (i + 1) r
end
theorem plT_eq (t : Tree) : plT t = [] :: plL 0 t.Kids := by cases t; rw [plT]
mutual
theorem plT_len : ∀ t : Tree, (plT t).length = tsT t
  | .mk s k => by rw [plT, tsT, List.length_cons, plL_len 0 k]; omega
theorem plL_len : ∀ (i : Nat) (l : List Tree), (plL i l).length = tsL l
  | _, [] => by rw [plL, tsL]; rfl
  | i, x :: r => by rw [plL, tsL, List.length_append, List.length_map, plT_len x, plL_len (i+1) r]
end
mutual
theorem plT_dep : ∀ (t : Tree) (p : List Int), p ∈ plT t → p.length ≤ tsT t
  | .mk s k, p, h => by
    rw [plT, List.mem_cons] at h
    rw [tsT]
    rcases h with rfl | h
    · simp
    · have := plL_dep 0 k p h; omega
theorem plL_dep : ∀ (i : Nat) (l : List Tree) (p : List Int), p ∈ plL i l → p.length ≤ tsL l + 1
  | _, [], p, h => by rw [plL] at h; cases h
  | i, x :: r, p, h => by
    rw [plL, List.mem_append, List.mem_map] at h
    rw [tsL]
    rcases h with ⟨q, hq, rfl⟩ | h
    · have := plT_dep x q hq; rw [List.length_cons]; omega
    · have := plL_dep (i+1) r p h; omega
end
theorem places_eq : ∀ (n : Nat) (t : Tree), tdT t < n → tsT t ≤ 1000 → ref01_Places n t = some (plT t) := by
  intro n
  induction n with
  | zero => intro t hd; omega
  | succ n ih =>
    intro t hd hs
    rw [tdT_eq] at hd
    have hlen := tlen t.Kids
    rw [tsT_eq] at hs
    rw [ref01_Places, rangeL, if_pos (by omega)]
    suffices H : ∀ (l : List Tree) (i : Nat) (q : List (List Int)) (k : List (List Int) → Option (List (List Int))), tdL l < n + 1 → 1 ≤ q.length → q.length + tsL l ≤ 1001 → rangeC (fun i3 x3 (s3 : List (List Int)) n3 => (ref01_Places n x3).bind fun v1 => rangeL v1 s3 (fun k4 i4 x4 (s4 : List (List Int)) n4 => (app 8 [(i3 : Int)] x4).bind fun v2 => (app 24 s4 [v2]).bind fun v3 => n4 v3) fun s4 => n3 s4) l i q k = k (q ++ plL i l) by
      rw [H t.Kids 0 [[]] _ hd (Nat.le_refl _) (by rw [List.length_cons, List.length_nil]; omega), plT_eq]; rfl
    intro l
    induction l with
    | nil => intro i q k _ _ _; rw [rangeC, plL, List.append_nil]
    | cons x r ihr =>
      intro i q k hd h0 h1
      obtain ⟨d1, d2⟩ := tdL_cons hd
      rw [tsL] at h1
      rw [rangeC, ih x d1 (by omega)]
      simp only [Option.bind_some]
      have lx := plT_len x
      rw [rangeL, if_pos (by omega)]
      have G : ∀ (ps : List (List Int)) (j : Nat) (q : List (List Int)) (kk : List (List Int) → Option (List (List Int))), (∀ p ∈ ps, p.length ≤ 2000) → q.length + ps.length ≤ 1001 → rangeC (fun i4 x4 (s4 : List (List Int)) n4 => (app 8 [(i : Int)] x4).bind fun v2 => (app 24 s4 [v2]).bind fun v3 => n4 v3) ps j q kk = kk (q ++ ps.map fun p => (i : Int) :: p) := by
        intro ps
        induction ps with
        | nil => intro j q kk _ _; rw [rangeC]; simp
        | cons p ps ihp =>
          intro j q kk hp h
          have := hp p (List.mem_cons_self ..)
          rw [List.length_cons] at h
          rw [rangeC, app_ok (by simp only [List.length_cons, List.length_nil]; omega)]
          simp only [Option.bind_some]
          rw [app_ok (by simp only [List.length_cons, List.length_nil]; omega)]
          simp only [Option.bind_some]
          rw [ihp _ _ _ (fun p h => hp p (List.mem_cons_of_mem _ h)) (by rw [List.length_append]; simp only [List.length_cons, List.length_nil]; omega)]
          simp
      rw [G _ 0 q _ (fun p hp => by have := plT_dep x p hp; omega) (by omega), ihr _ _ _ d2 (by rw [List.length_append, List.length_map]; omega) (by rw [List.length_append, List.length_map]; omega), plL]
      simp
def pl : PS → List Int
  | none => []
  | some (_, l, n) => l.take n
def pk : PS → Prop
  | none => True
  | some (_, l, n) => n ≤ l.length
theorem pcl_eq {p : PS} (h : pk p) (hl : (pl p).length ≤ 2000) : pcl p = some (pl p) := by
  rcases p with _ | ⟨g, l, n⟩
  · rfl
  · simp only [pk] at h
    simp only [pl, List.length_take] at hl
    simp only [pcl, pl]
    rw [if_pos (by omega)]
theorem posApp_eq {p : PS} (h : pk p) (hl : (pl p).length ≤ 2000) (i : Int) : ∃ p1, posApp p i = some p1 ∧ pk p1 ∧ pl p1 = pl p ++ [i] := by
  rcases p with _ | ⟨g, l, n⟩
  · exact ⟨_, rfl, by simp [pk], by simp [pl]⟩
  · simp only [pk] at h
    simp only [pl, List.length_take] at hl
    refine ⟨some (g + 1, l.take n ++ [i], n + 1), ?_, ?_, ?_⟩
    · simp only [posApp]; rw [if_pos (by omega)]
    · simp only [pk, List.length_append, List.length_take, List.length_cons, List.length_nil]; omega
    · simp only [pl]
      rw [List.take_of_length_le]
      simp only [List.length_append, List.length_take, List.length_cons, List.length_nil]; omega
theorem posCut_eq {p : PS} {q : List Int} {i : Int} (h : pk p) (e : pl p = q ++ [i]) (hl : q.length ≤ 2000) : ∃ p1, posCut p = some p1 ∧ pk p1 ∧ pl p1 = q := by
  rcases p with _ | ⟨g, l, n⟩
  · simp [pl] at e
  · simp only [pk] at h
    simp only [pl] at e
    have hn := congrArg List.length e
    simp only [List.length_append, List.length_take, List.length_cons, List.length_nil] at hn
    refine ⟨some (g, l, n - 1), ?_, ?_, ?_⟩
    · simp only [posCut]; rw [if_pos (by omega)]
    · simp only [pk]; omega
    · simp only [pl]
      rw [show n - 1 = q.length by omega, show l.take q.length = (l.take n).take q.length by rw [List.take_take]; congr 1; omega, e, List.take_left']
      rfl
theorem oapp_eq (o : OS) (x : List Int) (h : ((o.map (·.2)).getD []).length ≤ 2000) : ∃ g, oapp o x = some (some (g, (o.map (·.2)).getD [] ++ [x])) := by
  rcases o with _ | ⟨g, l⟩
  · exact ⟨1, rfl⟩
  · simp only [Option.map_some, Option.getD_some] at h ⊢
    refine ⟨g + 1, ?_⟩
    unfold oapp
    simp only []
    rw [app_ok (by simp only [List.length_cons, List.length_nil]; omega)]
    rfl
theorem treeW_eq : ∀ (n : Nat) (t : Tree) (o : OS) (p : PS), tdT t < n → tsT t ≤ 1000 → pk p → (pl p).length + tdT t ≤ 1000 → ((o.map (·.2)).getD []).length + tsT t ≤ 1000 →
    ∃ g p', treeW n t (o, p) = some (some (g, (o.map (·.2)).getD [] ++ (plT t).map (pl p ++ ·)), p') ∧ pk p' ∧ pl p' = pl p := by
  intro n
  induction n with
  | zero => intro t o p hd; omega
  | succ n ih =>
    intro t o p hd hs hk hp ho
    rw [tdT_eq] at hd hp
    have hlen := tlen t.Kids
    rw [tsT_eq] at hs ho
    rw [treeW, pcl_eq hk (by omega)]
    obtain ⟨g1, e1⟩ := oapp_eq o (pl p) (by omega)
    simp only [Option.bind_some]
    rw [e1]
    simp only [Option.bind_some]
    rw [rangeL, if_pos (by omega)]
    suffices H : ∀ (l : List Tree) (i : Nat) (q : List (List Int)) (g : Nat) (p : PS), pk p → tdL l < n + 1 → (pl p).length + tdL l ≤ 1000 → 1 ≤ q.length → q.length + tsL l ≤ 1000 → ∃ g' p', rangeC (fun i x1 (s1 : OS × PS) n1 => (posApp s1.2 (i : Int)).bind fun p1 => (treeW n x1 (s1.1, p1)).bind fun v => (posCut v.2).bind fun p2 => n1 (v.1, p2)) l i (some (g, q), p) (fun s1 => some s1) = some (some (g', q ++ (plL i l).map (pl p ++ ·)), p') ∧ pk p' ∧ pl p' = pl p by
      obtain ⟨g', p', h1, h2, h3⟩ := H t.Kids 0 ((o.map (·.2)).getD [] ++ [pl p]) g1 p hk hd (by omega) (by rw [List.length_append]; simp only [List.length_cons, List.length_nil]; omega) (by rw [List.length_append]; simp only [List.length_cons, List.length_nil]; omega)
      refine ⟨g', p', ?_, h2, h3⟩
      rw [h1, plT_eq]
      simp
    intro l
    induction l with
    | nil => intro i q g p hk _ _ _ _; exact ⟨g, p, by rw [rangeC, plL]; simp, hk, rfl⟩
    | cons x r ihr =>
      intro i q g p hk hd hp h0 h1
      obtain ⟨d1, d2⟩ := tdL_cons hd
      rw [tsL] at h1
      have hdl : tdT x + 1 ≤ tdL (x :: r) ∧ tdL r ≤ tdL (x :: r) := by rw [tdL]; omega
      obtain ⟨p1, a1, a2, a3⟩ := posApp_eq hk (by omega) (i : Int)
      rw [rangeC, a1]
      simp only [Option.bind_some]
      obtain ⟨g2, p2, b1, b2, b3⟩ := ih x (some (g, q)) p1 d1 (by omega) a2 (by rw [a3, List.length_append]; simp only [List.length_cons, List.length_nil]; omega) (by simp only [Option.map_some, Option.getD_some]; omega)
      rw [b1]
      simp only [Option.bind_some, Option.map_some, Option.getD_some]
      obtain ⟨p3, c1, c2, c3⟩ := posCut_eq b2 (b3.trans a3) (by omega)
      rw [c1]
      simp only [Option.bind_some]
      have lx := plT_len x
      obtain ⟨g4, p4, e1, e2, e3⟩ := ihr (i + 1) (q ++ (plT x).map (pl p1 ++ ·)) g2 p3 c2 d2 (by rw [c3]; omega) (by rw [List.length_append, List.length_map]; omega) (by rw [List.length_append, List.length_map]; omega)
      refine ⟨g4, p4, ?_, e2, e3.trans c3⟩
      rw [e1, c3, a3, plL]
      simp
theorem positions_eq {n : Nat} {r : List Int} {t : Tree} (hd : tdT t < n) (hw : twT t = true) : ∃ l e, tree_Positions n ⟨r⟩ t = some (l, e) ∧ ref01_Positions n ⟨r⟩ t = some (l, e) ∧ l.length ≤ 300 ∧ ∀ p ∈ l, p.length ≤ 300 := by
  unfold tree_Positions ref01_Positions
  rw [tvalid_eq r hd hw, rtvalid_eq r hd hw]
  simp only [Option.bind_some]
  by_cases c : tvld r t = true
  · obtain ⟨_, c2, _⟩ := tvld_le c
    have h1 := td_le t
    rw [if_pos c, if_pos c, places_eq n t hd (by omega)]
    obtain ⟨g, p', e, _, _⟩ := treeW_eq n t none none hd (by omega) trivial (by simp [pl]; omega) (by simp; omega)
    rw [e]
    refine ⟨plT t, 0, ?_, rfl, by rw [plT_len]; omega, fun p hp => by have := plT_dep t p hp; omega⟩
    simp [pl]
  · rw [if_neg c, if_neg c]
    exact ⟨[], 1, rfl, rfl, by simp, fun p hp => by cases hp⟩
theorem list_refl (l : List Int) (h : l.length < 9223372036854775808) : ref01_List l l = some true := by
  unfold ref01_List
  rw [if_pos rfl, rangeL, if_pos h]
  suffices H : ∀ (us p : List Int), l = p ++ us → rangeC (fun i1 (x1 : Int) (s1 : Unit) n1 => (l[i1]?).bind fun v1 => if x1 = v1 then n1 () else some false) us p.length () (fun _ => some true) = some true from H l [] rfl
  intro us
  induction us with
  | nil => intro p _; rw [rangeC]
  | cons x us ih =>
    intro p e
    rw [rangeC, show l[p.length]? = some x by rw [e, List.getElem?_append_right (Nat.le_refl _), Nat.sub_self]; rfl]
    simp only [Option.bind_some, if_true]
    have := ih (p ++ [x]) (by rw [e]; simp)
    rw [List.length_append] at this
    exact this
theorem lists_refl (l : List (List Int)) (h : l.length < 9223372036854775808) (hp : ∀ p ∈ l, p.length ≤ 300) : ref01_SameLists l l = some true := by
  unfold ref01_SameLists
  rw [if_pos rfl, rangeL, if_pos h]
  suffices H : ∀ (us p : List (List Int)), l = p ++ us → rangeC (fun i1 (x1 : List Int) (s1 : Unit) n1 => (l[i1]?).bind fun v1 => (ref01_List x1 v1).bind fun v2 => if v2 = true then n1 () else some false) us p.length () (fun _ => some true) = some true from H l [] rfl
  intro us
  induction us with
  | nil => intro p _; rw [rangeC]
  | cons x us ih =>
    intro p e
    have hx := hp x (by rw [e]; simp)
    rw [rangeC, show l[p.length]? = some x by rw [e, List.getElem?_append_right (Nat.le_refl _), Nat.sub_self]; rfl]
    simp only [Option.bind_some]
    rw [list_refl x (by omega)]
    simp only [Option.bind_some, if_true]
    have := ih (p ++ [x]) (by rw [e]; simp)
    rw [List.length_append] at this
    exact this
theorem find_eq (t : Tree) (p : List Int) : ref01_Find t p = tree_sub t p := rfl
theorem rat_eq {n : Nat} {r : List Int} {t : Tree} {p : List Int} (hd : tdT t < n) (hw : twT t = true) (hp : p.length ≤ 400) : ref01_At n ⟨r⟩ t p = some (atP r t p) := by
  unfold ref01_At atP
  rw [rtvalid_eq r hd hw]
  simp only [Option.bind_some]
  by_cases c : tvld r t = true
  · rw [if_pos c, if_pos c, find_eq, sub_eq t p (by omega)]
    unfold subP
    cases hu : sub t p <;> rfl
  · rw [if_neg c, if_neg c]
theorem replace_eq : ∀ (n : Nat) (t : Tree) (p : List Int) (x u : Tree), p.length < n → tsT t ≤ 100000 → sub t p = some u → p.length ≤ 400 → ref01_Replace n t p x = some (put t p x) := by
  intro n
  induction n with
  | zero => intro t p x u hd; omega
  | succ n ih =>
    intro t p x u hd hs hu hp
    rw [ref01_Replace]
    cases p with
    | nil => rw [if_pos (show ((([] : List Int).length : Int)) = 0 from rfl)]; rfl
    | cons i p =>
      obtain ⟨hi, k, hk, hu⟩ := sub_step hu
      have hlt := (List.getElem?_eq_some_iff.1 hk).1
      have hlen := tlen t.Kids
      have hts := tsT_eq t
      have hg := tsL_get _ _ _ hk
      rw [List.length_cons] at hd hp
      rw [if_neg (by simp only [List.length_cons]; omega)]
      rw [show appM 32 0 ([] : List Tree) t.Kids = some t.Kids by unfold appM; rw [if_pos ⟨Nat.zero_le _, by omega⟩]; rfl]
      simp only [Option.bind_some, List.getElem?_cons_zero]
      rw [show idxM t.Kids.length t.Kids i = some k by unfold idxM; rw [if_pos ⟨hi, hlt⟩, hk]]
      simp only [Option.bind_some]
      rw [show slcF (i :: p) 1 = some p by unfold slcF; rw [if_pos (by simp only [List.length_cons]; omega)]; rfl]
      simp only [Option.bind_some]
      rw [ih k p x u (by omega) (by omega) hu (by omega)]
      simp only [Option.bind_some]
      rw [show tkM t.Kids.length (t.Kids.set i.toNat (put k p x)) = some (t.Kids.set i.toNat (put k p x)) by unfold tkM; rw [if_pos (by simp), List.take_of_length_le (by simp)]]
      rw [put, hk]
      rfl
theorem rput_eq {n : Nat} {r : List Int} {t x : Tree} {p : List Int} (hd : tdT t < n) (hx : tdT x < n) (hn : 1000 ≤ n) (hw : twT t = true) (hwx : twT x = true) (hp : p.length ≤ 400) : ref01_Put n ⟨r⟩ t p x = some (putP r t p x) := by
  unfold ref01_Put putP
  rw [rtvalid_eq r hd hw, rtvalid_eq r hx hwx]
  simp only [Option.bind_some]
  by_cases c : tvld r t = true
  · rw [if_pos c]
    by_cases c' : tvld r x = true
    · obtain ⟨_, c2, _⟩ := tvld_le c
      obtain ⟨_, c3, _⟩ := tvld_le c'
      rw [if_pos c', if_pos ⟨c, c'⟩, find_eq, sub_eq t p (by omega)]
      unfold subP
      cases hu : sub t p with
      | none => rfl
      | some u =>
        simp only [Option.bind_some, if_true]
        have h2 := (put_all r p t u x hu).2.2.2.1
        have h3 := td_le (put t p x)
        rw [replace_eq n t p x u (by omega) (by omega) hu (by omega)]
        simp only [Option.bind_some]
        rw [tfew_eq (by omega) (twT_of _ (by omega)) (by omega) (by omega)]
        simp only [Option.bind_some]
        by_cases k2 : (300 : Int) < tsT (put t p x)
        · rw [if_pos k2, decide_eq_false (by omega)]; rfl
        · rw [if_neg k2, decide_eq_true (by omega)]; rfl
    · rw [if_neg c', if_neg (fun h => c' h.2)]
  · rw [if_neg c, if_neg (fun h => c h.1)]
theorem same_refl {n : Nat} {x : Tree} (h : tdT x < n) (hw : twT x = true) : ref01_Same n x x = some true := by
  rcases same_eq n x x h hw with ⟨_, h⟩ | ⟨e, _⟩
  · exact h
  · exact absurd rfl e
theorem atP_small (r : List Int) (t : Tree) (p : List Int) : tsT (atP r t p).1 ≤ 300 := by
  unfold atP
  by_cases c : tvld r t = true
  · rw [if_pos c]
    obtain ⟨_, c2, _⟩ := tvld_le c
    cases hu : sub t p with
    | none => simp only []; rw [tsT, tsL]; omega
    | some u =>
      have := (put_all r p t u u hu).2.2.1
      simp only []; omega
  · rw [if_neg c]; simp only []; rw [tsT, tsL]; omega
theorem putP_small (r : List Int) (t : Tree) (p : List Int) (x : Tree) : tsT (putP r t p x).1 ≤ 300 := by
  unfold putP
  by_cases c : tvld r t = true ∧ tvld r x = true
  · rw [if_pos c]
    cases hu : sub t p with
    | none => simp only []; rw [tsT, tsL]; omega
    | some u =>
      simp only []
      by_cases k2 : (300 : Int) < tsT (put t p x)
      · rw [if_pos k2]; simp only []; rw [tsT, tsL]; omega
      · rw [if_neg k2]; simp only []; omega
  · rw [if_neg c]; simp only []; rw [tsT, tsL]; omega
theorem places_law (m : Nat) (r : List Int) (t x : Tree) (p : List Int) (dt : tdT t < m + 1020) (dx : tdT x < m + 1020) (wt : twT t = true) (wx : twT x = true) : law01_TreePlaces (m + 1020) ⟨r⟩ t x p = some true := by
  unfold law01_TreePlaces
  rw [few2 dt dx wt wx, show m + 1020 = (m + 1000) + 20 from rfl, awake_eq, show m + 1000 + 20 = m + 1020 from rfl]
  simp only [Option.bind_some]
  by_cases c : (decide ((tsT t : Int) ≤ 2000) && (decide ((tsT x : Int) ≤ 2000) && decide ((r.length : Int) ≤ 40))) = true
  · rw [if_pos c]
    by_cases c1 : 400 < (p.length : Int)
    · rw [if_pos c1]
    obtain ⟨l, e, q1, q2, q3, q4⟩ := positions_eq (r := r) dt wt
    rw [if_neg c1, q1, q2, at_eq dt (by omega) wt (by omega), rat_eq dt wt (by omega), putf_eq dt dx (by omega) wt wx (by omega), rput_eq dt dx (by omega) wt wx (by omega)]
    simp only [Option.bind_some, if_true]
    have a1 := atP_small r t p
    have a2 := td_le (atP r t p).1
    have b1 := putP_small r t p x
    have b2 := td_le (putP r t p x).1
    rw [lists_refl l (by omega) q4, same_refl (by omega) (twT_of _ (by omega)), same_refl (by omega) (twT_of _ (by omega))]
    rfl
  · rw [if_neg c]
theorem law6 (pss : List (List PV)) (h : wtAll T [28, 24, 24, 26] pss) : ∃ σ', call Tryd.prog T H (.fn 6) (argsOf T [28, 24, 24, 26] pss) [] = some (.ret (.p (.lit (.bool true))), σ') := by
  obtain ⟨p1, r1, rfl, ⟨n1, w1⟩, p2, r2, rfl, ⟨n2, w2⟩, p3, r3, rfl, ⟨n3, w3⟩, p4, r4, rfl, ⟨n4, w4⟩, rfl⟩ := h
  obtain ⟨r, rfl⟩ := wt28 w1
  obtain ⟨x, rfl, hx⟩ := wt24 n2 p2 w2
  obtain ⟨y, rfl, hy⟩ := wt24 n3 p3 w3
  obtain ⟨p, e, _, _⟩ := wt_slM (row := rowI) (P := fun _ => True) d26 w4 (fun m' q _ hr => by
    obtain ⟨i, e, _⟩ := wt_int d3 hr
    exact ⟨i, e, trivial⟩)
  rw [sz3] at e
  subst e
  have := spec6 (tdT x + tdT y + 1020) ⟨r⟩ x y p true (places_law (tdT x + tdT y) r x y p (by omega) (by omega) hx hy)
  rw [row_Tree_eq, row_Tree_eq]
  exact ⟨[], this⟩
end Go.AM.S01

