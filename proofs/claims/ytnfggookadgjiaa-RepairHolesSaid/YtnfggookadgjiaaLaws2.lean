/- What the functions of this seat compute on the abstract machine, function by function, and the plain laws. -/
import Derived.Test.YtnfggookadgjiaaLaws
import Derived.KernelRfl
import Derived.Test.YtnfggookadgjiaaAmWt
set_option linter.unusedVariables false
set_option linter.unusedSimpArgs false
namespace Go.AM.S22
open Go Go.Proofs Go.AM
set_option linter.unusedVariables false
theorem w64_eq {n : Int} (h1 : -9223372036854775808 ≤ n) (h2 : n ≤ 9223372036854775807) : w64 n = n := wrapN h1 h2
theorem app_ok {α : Type} {b : Nat} {xs ys : List α} (h : (xs.length + ys.length) * b ≤ 70368744177664) : app b xs ys = some (xs ++ ys) := if_pos h
mutual
def tsT : Tree → Nat
  | .mk _ k => 1 + tsL k
def tsL : List Tree → Nat
  | [] => 0
  | x :: r => tsT x + tsL r
end
mutual
def tdT : Tree → Nat
  | .mk _ k => tdL k
def tdL : List Tree → Nat
  | [] => 0
  | x :: r => max (tdT x + 1) (tdL r)
end
mutual
def twT : Tree → Bool
  | .mk _ k => decide (k.length < 9223372036854775808) && twL k
def twL : List Tree → Bool
  | [] => true
  | x :: r => twT x && twL r
end
theorem tsT_eq (t : Tree) : tsT t = 1 + tsL t.Kids := by cases t; rw [tsT]
theorem tdT_eq (t : Tree) : tdT t = tdL t.Kids := by cases t; rw [tdT]
theorem twT_eq (t : Tree) : twT t = (decide (t.Kids.length < 9223372036854775808) && twL t.Kids) := by cases t; rw [twT]
theorem tlen : ∀ l : List Tree, l.length ≤ tsL l
  | [] => Nat.zero_le _
  | x :: r => by rw [tsL, List.length_cons, tsT_eq]; have := tlen r; omega
theorem tdL_cons {x : Tree} {r : List Tree} {n : Nat} (h : tdL (x :: r) < n + 1) : tdT x < n ∧ tdL r < n + 1 := by rw [tdL] at h; omega
theorem tcount_eq : ∀ (n : Nat) (t : Tree) (m : Int), tdT t < n → twT t = true → 0 ≤ m → m ≤ 1000000 → ref01_count n t m = some (min (tsT t : Int) (m + 1)) := by
  intro n
  induction n with
  | zero => intro t m hd; omega
  | succ n ih =>
    intro t m hd hw h1 h2
    rw [twT_eq] at hw
    simp only [Bool.and_eq_true, decide_eq_true_eq] at hw
    rw [tdT_eq] at hd
    rw [ref01_count, rangeL, if_pos hw.1]
    suffices H : ∀ (l : List Tree) (i : Nat) (c : Nat) (k : Int → Option Int), 1 ≤ c → tdL l < n + 1 → twL l = true → rangeC (fun i1 x1 (s1 : Int) n1 => if s1 ≤ m then (ref01_count n x1 (w64 (m - s1))).bind fun v1 => n1 (w64 (s1 + v1)) else n1 s1) l i (min (c : Int) (m + 1)) k = k (min ((c + tsL l : Nat) : Int) (m + 1)) by
      have := H t.Kids 0 1 (fun s => some s) (by omega) hd hw.2
      rw [show min ((1 : Nat) : Int) (m + 1) = 1 by omega] at this
      rw [this, tsT_eq]
    intro l
    induction l with
    | nil => intro i c k _ _ _; rw [rangeC, tsL]; rfl
    | cons x r ihr =>
      intro i c k hc hd hw
      obtain ⟨d1, d2⟩ := tdL_cons hd
      rw [twL, Bool.and_eq_true] at hw
      rw [rangeC]
      by_cases cc : min (c : Int) (m + 1) ≤ m
      · rw [if_pos cc]
        have e : min (c : Int) (m + 1) = c := by omega
        rw [e, w64_eq (n := m - c) (by omega) (by omega), ih x _ d1 hw.1 (by omega) (by omega)]
        show rangeC _ r (i + 1) (w64 (c + min (tsT x : Int) (m - c + 1))) k = _
        rw [w64_eq (by omega) (by omega)]
        have := ihr (i + 1) (c + tsT x) k (by omega) d2 hw.2
        rw [show (c : Int) + min (tsT x : Int) (m - c + 1) = min ((c + tsT x : Nat) : Int) (m + 1) by omega, this, tsL]
        congr 2; omega
      · rw [if_neg cc]
        show rangeC _ r (i + 1) (min (c : Int) (m + 1)) k = _
        have := ihr (i + 1) (c + tsT x) k (by omega) d2 hw.2
        rw [show min (c : Int) (m + 1) = min ((c + tsT x : Nat) : Int) (m + 1) by omega, this, tsL]
        congr 2; omega
theorem tfew_eq {n : Nat} {t : Tree} {m : Int} (hd : tdT t < n) (hw : twT t = true) (h1 : 0 ≤ m) (h2 : m ≤ 1000000) : ref01_Few n t m = some (decide ((tsT t : Int) ≤ m)) := by
  rw [ref01_Few, tcount_eq n t m hd hw h1 h2]
  show some _ = some _
  congr 1
  exact decide_eq_decide.2 (by omega)
def ord (a b : Int) : Int := if a < b then -1 else if b < a then 1 else 0
theorem ord_range (a b : Int) : -1 ≤ ord a b ∧ ord a b ≤ 1 := by
  unfold ord; repeat' split
  all_goals omega
theorem ord_anti (a b : Int) : ord b a = - ord a b := by
  unfold ord; repeat' split
  all_goals omega
theorem ord_add (c a b : Int) : ord (c + a) (c + b) = ord a b := by
  unfold ord; repeat' split
  all_goals omega
def lexF (f : Tree → Tree → Int) : List Tree → List Tree → Int
  | [], [] => 0
  | [], _ :: _ => -1
  | _ :: _, [] => 1
  | a :: us, b :: bs => if f a b = 0 then lexF f us bs else f a b
def cmpF : Nat → Tree → Tree → Int
  | 0, _, _ => 0
  | n + 1, x, y => if ord (tsT x) (tsT y) = 0 then (if ord x.Sym y.Sym = 0 then lexF (cmpF n) x.Kids y.Kids else ord x.Sym y.Sym) else ord (tsT x) (tsT y)
theorem lexF_range {f : Tree → Tree → Int} (hf : ∀ a b, -1 ≤ f a b ∧ f a b ≤ 1) : ∀ us bs, -1 ≤ lexF f us bs ∧ lexF f us bs ≤ 1
  | [], [] => by rw [lexF]; omega
  | [], _ :: _ => by rw [lexF]; omega
  | _ :: _, [] => by rw [lexF]; omega
  | a :: us, b :: bs => by
    rw [lexF]
    split
    · exact lexF_range hf us bs
    · exact hf a b
theorem lexF_anti {f : Tree → Tree → Int} (hf : ∀ a b, f b a = - f a b) : ∀ us bs, lexF f bs us = - lexF f us bs
  | [], [] => by rw [lexF]; rfl
  | [], _ :: _ => by rw [lexF, lexF]; rfl
  | _ :: _, [] => by rw [lexF, lexF]
  | a :: us, b :: bs => by
    rw [lexF, lexF, hf a b]
    by_cases h : f a b = 0
    · rw [if_pos h, if_pos (by omega)]; exact lexF_anti hf us bs
    · rw [if_neg h, if_neg (by omega)]
theorem cmpF_range : ∀ n a b, -1 ≤ cmpF n a b ∧ cmpF n a b ≤ 1
  | 0, a, b => by rw [cmpF]; omega
  | n + 1, a, b => by
    rw [cmpF]
    split
    · split
      · exact lexF_range (cmpF_range n) _ _
      · exact ord_range _ _
    · exact ord_range _ _
theorem cmpF_anti : ∀ n a b, cmpF n b a = - cmpF n a b
  | 0, a, b => by rw [cmpF, cmpF]; rfl
  | n + 1, a, b => by
    rw [cmpF, cmpF, ord_anti (tsT a) (tsT b), ord_anti a.Sym b.Sym]
    by_cases h : ord (tsT a) (tsT b) = 0
    · rw [if_pos (by omega), if_pos h]
      by_cases h' : ord a.Sym b.Sym = 0
      · rw [if_pos (by omega), if_pos h']; exact lexF_anti (cmpF_anti n) _ _
      · rw [if_neg (by omega), if_neg h']
    · rw [if_neg (by omega), if_neg h]
mutual
def mzN : Tree → tree_sized
  | .mk l k => ⟨l, 1 + tsL k, mzL k⟩
def mzL : List Tree → List tree_sized
  | [] => []
  | x :: r => mzN x :: mzL r
end
theorem mzL_map : ∀ l : List Tree, mzL l = l.map mzN
  | [] => by rw [mzL]; rfl
  | x :: r => by rw [mzL, mzL_map r]; rfl
theorem mzN_eq (x : Tree) : mzN x = ⟨x.Sym, tsT x, x.Kids.map mzN⟩ := by cases x; rw [mzN, mzL_map, tsT]; congr 1
theorem measure_eq : ∀ (n : Nat) (x : Tree), tdT x < n → tsT x ≤ 100000 → tree_measure n x = some (mzN x) := by
  intro n
  induction n with
  | zero => intro x hd; omega
  | succ n ih =>
    intro x hd hs
    have hk := tlen x.Kids
    rw [tsT_eq] at hs
    rw [tree_measure, rangeL, if_pos (by omega)]
    suffices H : ∀ (l : List Tree) (i : Nat) (t : Int) (q : List tree_sized) (k : Int × List tree_sized → Option tree_sized), tdL l < n + 1 → 0 ≤ t → t + tsL l ≤ 1000000 → q.length + tsL l ≤ 1000000 → tsL l ≤ 100000 → rangeC (fun i1 x1 (s1 : Int × (List tree_sized)) n1 => (tree_measure n x1).bind fun v1 => (app 40 s1.2 [v1]).bind fun v2 => n1 (w64 (s1.1 + v1.size), v2)) l i (t, q) k = k (t + tsL l, q ++ l.map mzN) by
      rw [H x.Kids 0 1 [] _ (by rw [tdT_eq] at hd; omega) (by omega) (by omega) (by simp only [List.length_nil]; omega) (by omega), mzN_eq, tsT_eq]
      rfl
    intro l
    induction l with
    | nil => intro i t q k _ _ _ _ _; rw [rangeC, tsL]; simp
    | cons y r ihr =>
      intro i t q k h1 h2 h3 h4 h5
      obtain ⟨d1, d2⟩ := tdL_cons h1
      have hy := tsT_eq y
      rw [tsL] at h3 h4 h5
      rw [rangeC, ih y d1 (by omega)]
      simp only [Option.bind_some]
      rw [app_ok (by simp only [List.length_cons, List.length_nil]; omega)]
      simp only [Option.bind_some]
      rw [mzN_eq]
      simp only []
      rw [w64_eq (by omega) (by omega), ihr _ _ _ _ d2 (by omega) (by omega) (by rw [List.length_append]; simp only [List.length_cons, List.length_nil]; omega) (by omega)]
      rw [tsL, List.map_cons, mzN_eq y, List.append_assoc]
      congr 2
      omega
theorem compare_int (a b : Int) : cmp_Compare_int a b = some (ord a b) := by
  unfold cmp_Compare_int cmp_isNaN_int ord
  simp only [bne_self_eq_false, Option.bind_some]
  rw [if_neg (by decide), if_neg (by decide)]
  split
  · rfl
  · split <;> rfl
theorem or_int (a b : Int) : cmp_Or_int [a, b] = some (if a = 0 then b else a) := by
  unfold cmp_Or_int rangeL
  rw [if_pos (by simp only [List.length_cons, List.length_nil]; omega)]
  simp only [rangeC]
  by_cases h : a = 0
  · rw [if_pos h, if_pos h]
    by_cases h' : b = 0
    · rw [if_pos h', h']
    · rw [if_neg h']
  · rw [if_neg h, if_neg h]
theorem hcompare_eq : ∀ (n : Nat) (x y : Tree), tdT x < n → tsT x ≤ 100000 → tsT y ≤ 100000 → tree_compare n (mzN x) (mzN y) = some (cmpF n x y) := by
  intro n
  induction n with
  | zero => intro x y hd; omega
  | succ n ih =>
    intro x y hd hx hy
    have hk := tlen x.Kids
    have hk' := tlen y.Kids
    rw [tree_compare, mzN_eq x, mzN_eq y]
    simp only []
    rw [compare_int, compare_int]
    simp only [Option.bind_some]
    rw [or_int, cmpF]
    simp only [Option.bind_some]
    by_cases c1 : ord (tsT x) (tsT y) = 0
    · rw [if_pos c1, if_pos c1]
      by_cases c2 : ord x.Sym y.Sym = 0
      · rw [if_pos c2, if_pos c2]
        rw [tsT_eq] at hx hy
        simp only [jn]
        rw [rangeL, if_pos (by rw [List.length_map]; omega)]
        suffices H : ∀ (us bs pa pb : List Tree), pa.length = pb.length → x.Kids = pa ++ us → y.Kids = pb ++ bs → tdL us < n + 1 → tsL us ≤ 100000 → tsL bs ≤ 100000 → rangeC (fun i1 (x1 : tree_sized) (s1 : Unit) n1 => if ((y.Kids.map mzN).length : Int) ≤ (i1 : Int) then some 1 else ((y.Kids.map mzN)[i1]?).bind fun v4 => (tree_compare n x1 v4).bind fun v5 => if v5 = 0 then n1 () else some v5) (us.map mzN) pa.length () (fun _ => if ((x.Kids.map mzN).length : Int) < ((y.Kids.map mzN).length : Int) then some (-1) else some 0) = some (lexF (cmpF n) us bs) from
          H x.Kids y.Kids [] [] rfl rfl rfl (by rw [tdT_eq] at hd; exact hd) (by omega) (by omega)
        intro us
        induction us with
        | nil =>
          intro bs pa pb e1 e2 e3 _ _ _
          rw [List.map_nil, rangeC, List.length_map, List.length_map, e2, e3]
          cases bs with
          | nil => rw [if_neg (by simp; omega), lexF]
          | cons b bs => rw [if_pos (by simp; omega), lexF]
        | cons a us iha =>
          intro bs pa pb e1 e2 e3 h1 h2 h3
          obtain ⟨d1, d2⟩ := tdL_cons h1
          rw [tsL] at h2
          rw [List.map_cons, rangeC]
          cases bs with
          | nil => rw [if_pos (by rw [List.length_map, e3]; simp; omega), lexF]
          | cons b bs =>
            rw [tsL] at h3
            have hb : (y.Kids.map mzN)[pa.length]? = some (mzN b) := by rw [List.getElem?_map, e3, e1, List.getElem?_append_right (Nat.le_refl _), Nat.sub_self]; rfl
            rw [if_neg (by rw [List.length_map, e3]; simp; omega), hb]
            simp only [Option.bind_some]
            rw [ih a b d1 (by omega) (by omega), lexF]
            simp only [Option.bind_some]
            by_cases c : cmpF n a b = 0
            · rw [if_pos c, if_pos c]
              have := iha bs (pa ++ [a]) (pb ++ [b]) (by simp [e1]) (by simp [e2]) (by simp [e3]) d2 (by omega) (by omega)
              rw [List.length_append] at this
              exact this
            · rw [if_neg c, if_neg c]
      · rw [if_neg c2, if_neg c2]
    · rw [if_neg c1, if_neg c1, if_neg c1]
def PF {α : Type} (f : α → α → Int) : Prop := ∀ a b c, f a b ≤ 0 → f b c ≤ 0 → f a c ≤ 0 ∧ (f a c = 0 → f a b = 0 ∧ f b c = 0)
theorem ord_PF : PF ord := by
  intro a b c
  unfold ord
  repeat' split
  all_goals omega
theorem lexF_PF {f : Tree → Tree → Int} (hf : PF f) : PF (lexF f)
  | [], [], [] => by rw [lexF]; omega
  | [], [], _ :: _ => by rw [lexF, lexF]; omega
  | [], _ :: _, [] => by rw [lexF, lexF, lexF]; omega
  | [], _ :: _, _ :: _ => by rw [show lexF f [] (_ :: _) = -1 from by rw [lexF], show lexF f [] (_ :: _) = -1 from by rw [lexF]]; omega
  | _ :: _, [], _ => by rw [show lexF f (_ :: _) [] = 1 from by rw [lexF]]; omega
  | _ :: _, _ :: _, [] => by rw [show lexF f (_ :: _) [] = 1 from by rw [lexF]]; omega
  | a :: us, b :: bs, c :: cs => by
    intro h1 h2
    rw [lexF] at h1 h2
    have q := lexF_PF hf us bs cs
    have p := hf a b c
    rw [lexF, lexF, lexF]
    by_cases x1 : f a b = 0
    · rw [if_pos x1] at h1 ⊢
      by_cases x2 : f b c = 0
      · rw [if_pos x2] at h2 ⊢
        have p2 := p (by omega) (by omega)
        by_cases x3 : f a c = 0
        · rw [if_pos x3]; exact q h1 h2
        · rw [if_neg x3]; exact ⟨p2.1, fun h => absurd h x3⟩
      · rw [if_neg x2] at h2 ⊢
        have p2 := p (by omega) h2
        have x3 : f a c ≠ 0 := fun h => x2 (p2.2 h).2
        rw [if_neg x3]; exact ⟨p2.1, fun h => absurd h x3⟩
    · rw [if_neg x1] at h1 ⊢
      have hbc : f b c ≤ 0 := by
        by_cases x2 : f b c = 0
        · omega
        · rw [if_neg x2] at h2; exact h2
      have p2 := p h1 hbc
      have x3 : f a c ≠ 0 := fun h => x1 (p2.2 h).1
      rw [if_neg x3]; exact ⟨p2.1, fun h => absurd h x3⟩
/-- first by one measure, then by another -/
theorem then_PF {α : Type} {u v : α → α → Int} (hu : PF u) (hv : PF v) : PF (fun a b => if u a b = 0 then v a b else u a b) := by
  intro a b c h1 h2
  have p := hu a b c
  have q := hv a b c
  simp only [] at h1 h2 ⊢
  by_cases x1 : u a b = 0
  · rw [if_pos x1] at h1 ⊢
    by_cases x2 : u b c = 0
    · rw [if_pos x2] at h2 ⊢
      have p2 := p (by omega) (by omega)
      by_cases x3 : u a c = 0
      · rw [if_pos x3]; exact q h1 h2
      · rw [if_neg x3]; exact ⟨p2.1, fun h => absurd h x3⟩
    · rw [if_neg x2] at h2 ⊢
      have p2 := p (by omega) h2
      have x3 : u a c ≠ 0 := fun h => x2 (p2.2 h).2
      rw [if_neg x3]; exact ⟨p2.1, fun h => absurd h x3⟩
  · rw [if_neg x1] at h1 ⊢
    have hbc : u b c ≤ 0 := by
      by_cases x2 : u b c = 0
      · omega
      · rw [if_neg x2] at h2; exact h2
    have p2 := p h1 hbc
    have x3 : u a c ≠ 0 := fun h => x1 (p2.2 h).1
    rw [if_neg x3]; exact ⟨p2.1, fun h => absurd h x3⟩
theorem cmpF_PF : ∀ n, PF (cmpF n)
  | 0 => by intro a b c; rw [cmpF, cmpF, cmpF]; omega
  | n + 1 => by
    have h := then_PF (α := Tree) (u := fun x y => ord (tsT x) (tsT y)) (v := fun x y => if ord x.Sym y.Sym = 0 then lexF (cmpF n) x.Kids y.Kids else ord x.Sym y.Sym) (fun a b c => ord_PF _ _ _)
      (then_PF (u := fun x y : Tree => ord x.Sym y.Sym) (v := fun x y : Tree => lexF (cmpF n) x.Kids y.Kids) (fun a b c => ord_PF _ _ _) (fun a b c => lexF_PF (cmpF_PF n) _ _ _))
    intro a b c
    have := h a b c
    rw [cmpF, cmpF, cmpF]
    exact this
theorem Compare_eq {n : Nat} {x y : Tree} (dx : tdT x < n) (dy : tdT y < n) (sx : tsT x ≤ 100000) (sy : tsT y ≤ 100000) : tree_Compare n x y = some (cmpF n x y) := by
  unfold tree_Compare
  rw [measure_eq n x dx sx, measure_eq n y dy sy]
  simp only [Option.bind_some]
  rw [hcompare_eq n x y dx sx sy]
  rfl
set_option linter.unusedVariables false
theorem tree_Size_eq : ∀ (n : Nat) (t : Tree), tdT t < n → tsT t ≤ 1000000 → tree_Size n t = some (tsT t : Int) := by
  intro n
  induction n with
  | zero => intro t hd; omega
  | succ n ih =>
    intro t hd hs
    rw [tdT_eq] at hd
    have hlen := tlen t.Kids
    rw [tsT_eq] at hs
    rw [tree_Size, rangeL, if_pos (by omega)]
    suffices H : ∀ (l : List Tree) (i : Nat) (s : Int) (k : Int → Option Int), tdL l < n + 1 → 1 ≤ s → s + tsL l ≤ 1000001 → rangeC (fun i1 x1 (s1 : Int) n1 => (tree_Size n x1).bind fun v1 => n1 (w64 (s1 + v1))) l i s k = k (s + tsL l) by
      rw [H t.Kids 0 1 _ hd (by omega) (by omega), tsT_eq]
      congr 1
    intro l
    induction l with
    | nil => intro i s k _ _ _; rw [rangeC, tsL]; congr 1; simp
    | cons x r ihr =>
      intro i s k hd h0 h1
      obtain ⟨d1, d2⟩ := tdL_cons hd
      rw [tsL] at h1
      rw [rangeC, ih x d1 (by omega)]
      simp only [Option.bind_some]
      rw [w64_eq (by omega) (by omega), ihr _ _ _ d2 (by omega) (by omega), tsL]
      congr 1; omega
theorem ref01_Size_eq : ∀ (n : Nat) (t : Tree), tdT t < n → tsT t ≤ 1000000 → ref01_Size n t = some (tsT t : Int) := by
  intro n
  induction n with
  | zero => intro t hd; omega
  | succ n ih =>
    intro t hd hs
    rw [tdT_eq] at hd
    have hlen := tlen t.Kids
    rw [tsT_eq] at hs
    rw [ref01_Size, rangeL, if_pos (by omega)]
    suffices H : ∀ (l : List Tree) (i : Nat) (s : Int) (k : Int → Option Int), tdL l < n + 1 → 1 ≤ s → s + tsL l ≤ 1000001 → rangeC (fun i1 x1 (s1 : Int) n1 => (ref01_Size n x1).bind fun v1 => n1 (w64 (s1 + v1))) l i s k = k (s + tsL l) by
      rw [H t.Kids 0 1 _ hd (by omega) (by omega), tsT_eq]
      congr 1
    intro l
    induction l with
    | nil => intro i s k _ _ _; rw [rangeC, tsL]; congr 1; simp
    | cons x r ihr =>
      intro i s k hd h0 h1
      obtain ⟨d1, d2⟩ := tdL_cons hd
      rw [tsL] at h1
      rw [rangeC, ih x d1 (by omega)]
      simp only [Option.bind_some]
      rw [w64_eq (by omega) (by omega), ihr _ _ _ d2 (by omega) (by omega), tsL]
      congr 1; omega
mutual
theorem td_le : ∀ t : Tree, tdT t + 1 ≤ tsT t
  | .mk s k => by rw [tdT, tsT]; have := tdL_le k; omega
theorem tdL_le : ∀ l : List Tree, tdL l ≤ tsL l
  | [] => by rw [tdL, tsL]; exact Nat.le_refl _
  | x :: r => by rw [tdL, tsL]; have := td_le x; have := tdL_le r; omega
end
theorem order_eq (a b : Int) : ref01_order a b = some (ord a b) := by
  unfold ref01_order ord
  split
  · rfl
  · split <;> rfl
theorem rcompare_eq : ∀ (n : Nat) (x y : Tree), tdT x + 1 < n → tdT y + 1 < n → tsT x ≤ 100000 → tsT y ≤ 100000 → ref01_Compare n x y = some (cmpF n x y) := by
  intro n
  induction n with
  | zero => intro x y hd; omega
  | succ n ih =>
    intro x y hd hd' hx hy
    have hk := tlen x.Kids
    have hk' := tlen y.Kids
    rw [ref01_Compare, ref01_Size_eq n x (by omega) (by omega), ref01_Size_eq n y (by omega) (by omega)]
    rw [tdT_eq] at hd hd'
    have hx' := hx
    have hy' := hy
    rw [tsT_eq] at hx' hy'
    simp only [Option.bind_some]
    rw [order_eq, order_eq, order_eq, cmpF]
    simp only [Option.bind_some]
    by_cases c1 : ord (tsT x) (tsT y) = 0
    · rw [if_pos c1, if_pos c1]
      by_cases c2 : ord x.Sym y.Sym = 0
      · rw [if_pos c2, if_pos c2]
        have e0 : minI (x.Kids.length : Int) (y.Kids.length : Int) = ((min x.Kids.length y.Kids.length : Nat) : Int) := by unfold minI; split <;> omega
        rw [e0, rangeI, if_pos (by omega), Int.toNat_natCast]
        suffices H : ∀ (us bs pa pb : List Tree), pa.length = pb.length → x.Kids = pa ++ us → y.Kids = pb ++ bs → tdL us + 1 < n + 1 → tdL bs + 1 < n + 1 → tsL us ≤ 100000 → tsL bs ≤ 100000 → rangeC (fun i1 (_ : Unit) (s1 : Unit) n1 => (x.Kids[i1]?).bind fun v6 => (y.Kids[i1]?).bind fun v7 => (ref01_Compare n v6 v7).bind fun v8 => if v8 = 0 then n1 () else some v8) (List.replicate (min us.length bs.length) ()) pa.length () (fun _ => some (ord (x.Kids.length : Int) (y.Kids.length : Int))) = some (lexF (cmpF n) us bs) from
          H x.Kids y.Kids [] [] rfl rfl rfl (by omega) (by omega) (by omega) (by omega)
        intro us
        induction us with
        | nil =>
          intro bs pa pb e1 e2 e3 _ _ _ _
          rw [List.length_nil, Nat.zero_min, List.replicate_zero, rangeC, e2, e3]
          unfold ord
          cases bs with
          | nil => rw [if_neg (by simp; omega), if_neg (by simp; omega), lexF]
          | cons b bs => rw [if_pos (by simp; omega), lexF]
        | cons a us iha =>
          intro bs pa pb e1 e2 e3 h1 h1' h2 h3
          have h4 := h1
          rw [tdL] at h4
          rw [tsL] at h2
          cases bs with
          | nil =>
            rw [List.length_nil, Nat.min_zero, List.replicate_zero, rangeC, e2, e3]
            unfold ord
            rw [if_neg (by simp; omega), if_pos (by simp; omega), lexF]
          | cons b bs =>
            rw [tsL] at h3
            have h4' := h1'
            rw [tdL] at h4'
            have ha : x.Kids[pa.length]? = some a := by rw [e2, List.getElem?_append_right (Nat.le_refl _), Nat.sub_self]; rfl
            have hb : y.Kids[pa.length]? = some b := by rw [e3, e1, List.getElem?_append_right (Nat.le_refl _), Nat.sub_self]; rfl
            rw [List.length_cons, List.length_cons, Nat.succ_min_succ, List.replicate_succ, rangeC, ha, hb]
            simp only [Option.bind_some]
            rw [ih a b (by omega) (by omega) (by omega) (by omega), lexF]
            simp only [Option.bind_some]
            by_cases c : cmpF n a b = 0
            · rw [if_pos c, if_pos c]
              have := iha bs (pa ++ [a]) (pb ++ [b]) (by simp [e1]) (by simp [e2]) (by simp [e3]) (by omega) (by omega) (by omega) (by omega)
              rw [List.length_append] at this
              exact this
            · rw [if_neg c, if_neg c]
      · rw [if_neg c2, if_neg c2]
    · rw [if_neg c1, if_neg c1]
set_option linter.unusedVariables false
def rk (r : List Int) (s : Int) : Int := (r[s.toNat]?).getD 0
theorem rk_get {r : List Int} {s : Int} (h0 : 0 ≤ s) (h1 : s < r.length) : idx r s = some (rk r s) := by
  unfold idx rk
  rw [if_pos h0, List.getElem?_eq_getElem (by omega)]; rfl
mutual
def shT (r : List Int) : Tree → Bool
  | .mk s k => decide (0 ≤ s ∧ s < r.length ∧ (k.length : Int) = rk r s) && shL r k
def shL (r : List Int) : List Tree → Bool
  | [] => true
  | x :: q => shT r x && shL r q
end
theorem shT_eq (r : List Int) (t : Tree) : shT r t = (decide (0 ≤ t.Sym ∧ t.Sym < r.length ∧ (t.Kids.length : Int) = rk r t.Sym) && shL r t.Kids) := by cases t; rw [shT]
theorem tw_out {t : Tree} (h : twT t = true) : t.Kids.length < 9223372036854775808 ∧ twL t.Kids = true := by
  rw [twT_eq] at h; simpa only [Bool.and_eq_true, decide_eq_true_eq] using h
theorem tw_cons {x : Tree} {q : List Tree} (h : twL (x :: q) = true) : twT x = true ∧ twL q = true := by
  rw [twL] at h; simpa only [Bool.and_eq_true] using h
theorem tformed_eq (r : List Int) : ∀ (n : Nat) (t : Tree) (m : Int), tdT t < n → twT t = true → 0 ≤ m → m ≤ 1000000 →
    (((tsT t : Int) ≤ m ∧ shT r t = true) ∧ tree_formed n ⟨r⟩ t m = some (true, m - tsT t)) ∨ (¬ ((tsT t : Int) ≤ m ∧ shT r t = true) ∧ ∃ v, tree_formed n ⟨r⟩ t m = some (false, v)) := by
  intro n
  induction n with
  | zero => intro t m hd; omega
  | succ n ih =>
    intro t m hd hw h1 h2
    obtain ⟨w1, w2⟩ := tw_out hw
    rw [tree_formed, shT_eq, tsT_eq]
    simp only [Bool.and_eq_true, decide_eq_true_eq]
    have e1 : w64 (m - 1) = m - 1 := w64_eq (by omega) (by omega)
    rw [e1]
    by_cases c1 : m - 1 < 0
    · exact .inr ⟨by omega, _, by rw [if_pos c1]⟩
    rw [if_neg c1]
    by_cases c2 : t.Sym < 0
    · exact .inr ⟨by omega, _, by rw [if_pos c2]⟩
    rw [if_neg c2]
    by_cases c3 : (r.length : Int) ≤ t.Sym
    · exact .inr ⟨by omega, _, by rw [if_pos c3]⟩
    rw [if_neg c3, rk_get (by omega) (by omega)]
    simp only [Option.bind_some]
    by_cases c4 : (t.Kids.length : Int) = rk r t.Sym
    · rw [if_pos c4]
      rw [rangeL, if_pos w1]
      rw [tdT_eq] at hd
      suffices H : ∀ (l : List Tree) (i : Nat) (s : Int), tdL l < n + 1 → twL l = true → 0 ≤ s → s ≤ 1000000 →
        (((tsL l : Int) ≤ s ∧ shL r l = true) ∧ ∀ k : Int → Option (Bool × Int), rangeC (fun i1 x1 (s1 : Int) n1 => (tree_formed n ⟨r⟩ x1 s1).bind fun v2 => if v2.1 = true then n1 v2.2 else some (false, v2.2)) l i s k = k (s - tsL l)) ∨
        (¬ ((tsL l : Int) ≤ s ∧ shL r l = true) ∧ ∃ v, ∀ k : Int → Option (Bool × Int), rangeC (fun i1 x1 (s1 : Int) n1 => (tree_formed n ⟨r⟩ x1 s1).bind fun v2 => if v2.1 = true then n1 v2.2 else some (false, v2.2)) l i s k = some (false, v)) by
        rcases H t.Kids 0 (m - 1) hd w2 (by omega) (by omega) with ⟨c, e⟩ | ⟨c, v, e⟩
        · exact .inl ⟨⟨by omega, ⟨by omega, by omega, c4⟩, c.2⟩, by rw [e]; congr 2; omega⟩
        · exact .inr ⟨fun hh => c ⟨by omega, hh.2.2⟩, v, e _⟩
      intro l
      induction l with
      | nil => intro i s _ _ h1 h2; exact .inl ⟨⟨by rw [tsL]; exact h1, by rw [shL]⟩, fun k => by rw [rangeC, tsL]; congr 1; simp⟩
      | cons x q ihr =>
        intro i s hd hw h1 h2
        obtain ⟨d1, d2⟩ := tdL_cons hd
        obtain ⟨v1, v2⟩ := tw_cons hw
        rw [tsL, shL]
        simp only [Bool.and_eq_true, rangeC]
        rcases ih x s d1 v1 h1 h2 with ⟨c, e⟩ | ⟨c, v, e⟩
        · rcases ihr (i + 1) (s - tsT x) d2 v2 (by omega) (by omega) with ⟨c', e'⟩ | ⟨c', v, e'⟩
          · exact .inl ⟨⟨by omega, c.2, c'.2⟩, fun k => by rw [e]; simp only [Option.bind_some, if_true]; rw [e' k]; congr 1; omega⟩
          · exact .inr ⟨fun hh => c' ⟨by omega, hh.2.2⟩, v, fun k => by rw [e]; simp only [Option.bind_some, if_true]; rw [e' k]⟩
        · exact .inr ⟨fun hh => c ⟨by omega, hh.2.1⟩, v, fun k => by rw [e]; rfl⟩
    · rw [if_neg c4]
      exact .inr ⟨fun hh => c4 hh.2.1.2.2, _, rfl⟩
theorem shaped_eq (r : List Int) : ∀ (n : Nat) (t : Tree), tdT t < n → twT t = true → ref01_shaped n ⟨r⟩ t = some (shT r t) := by
  intro n
  induction n with
  | zero => intro t hd; omega
  | succ n ih =>
    intro t hd hw
    obtain ⟨w1, w2⟩ := tw_out hw
    rw [ref01_shaped, shT_eq]
    by_cases c2 : t.Sym < 0
    · rw [if_pos c2, decide_eq_false (by omega)]; rfl
    rw [if_neg c2]
    by_cases c3 : (r.length : Int) ≤ t.Sym
    · simp only [] at c3 ⊢
      rw [if_pos c3, decide_eq_false (by omega)]; rfl
    have c3' : ¬ (r.length : Int) ≤ t.Sym := c3
    rw [if_neg c3, show idx (Alphabet.mk r).Ranks t.Sym = some (rk r t.Sym) from rk_get (r := r) (Int.not_lt.1 c2) (Int.not_le.1 c3')]
    simp only [Option.bind_some]
    by_cases c4 : (t.Kids.length : Int) = rk r t.Sym
    · rw [if_pos c4, rangeL, if_pos w1, decide_eq_true ⟨Int.not_lt.1 c2, Int.not_le.1 c3', c4⟩, Bool.true_and]
      rw [tdT_eq] at hd
      suffices H : ∀ (l : List Tree) (i : Nat), tdL l < n + 1 → twL l = true → rangeC (fun i1 x1 (s1 : Unit) n1 => (ref01_shaped n ⟨r⟩ x1).bind fun v2 => if v2 = true then n1 () else some false) l i () (fun _ => some true) = some (shL r l) from H t.Kids 0 hd w2
      intro l
      induction l with
      | nil => intro i _ _; rw [rangeC, shL]
      | cons x q ihr =>
        intro i hd hw
        obtain ⟨d1, d2⟩ := tdL_cons hd
        obtain ⟨v1, v2⟩ := tw_cons hw
        rw [rangeC, ih x d1 v1, shL]
        simp only [Option.bind_some]
        cases shT r x with
        | true => rw [if_pos rfl, ihr (i + 1) d2 v2]; rfl
        | false => rfl
    · rw [if_neg c4, decide_eq_false (fun hh => c4 hh.2.2)]; rfl
def vA (r : List Int) : Bool := decide (r.length ≤ 12) && r.all fun x => decide (0 ≤ x ∧ x ≤ 3)
theorem hvA (r : List Int) : tree_ValidAlphabet ⟨r⟩ = some (vA r) := by
  unfold tree_ValidAlphabet vA
  simp only []
  by_cases c : (r.length : Int) ≤ 12
  · rw [if_pos c, decide_eq_true (by omega : r.length ≤ 12), Bool.true_and]
    simp only [jn]
    rw [rangeL, if_pos (by omega)]
    suffices H : ∀ (l : List Int) (i : Nat), rangeC (fun i1 (x1 : Int) (s1 : Unit) n1 => (tree_ValidAlphabet_1 x1).bind fun v1 => if v1 = true then some (!decide ((0 : Int) ≤ (i1 : Int))) else n1 ()) l i () (fun _ => some (!decide ((0 : Int) ≤ -1))) = some (l.all fun x => decide (0 ≤ x ∧ x ≤ 3)) from H r 0
    intro l
    induction l with
    | nil => intro i; rw [rangeC]; rfl
    | cons x q ih =>
      intro i
      rw [rangeC, List.all_cons]
      unfold tree_ValidAlphabet_1
      by_cases c1 : x < 0
      · rw [if_pos c1, decide_eq_false (by omega : ¬ (0 ≤ x ∧ x ≤ 3))]
        simp only [Option.bind_some, if_true]
        rw [decide_eq_true (by omega : (0 : Int) ≤ (i : Int))]; rfl
      · rw [if_neg c1]
        simp only [Option.bind_some]
        by_cases c2 : 3 < x
        · rw [decide_eq_true c2, decide_eq_false (by omega : ¬ (0 ≤ x ∧ x ≤ 3)), if_pos rfl, decide_eq_true (by omega : (0 : Int) ≤ (i : Int))]; rfl
        · rw [decide_eq_false c2, decide_eq_true (by omega : 0 ≤ x ∧ x ≤ 3), if_neg (by decide), Bool.true_and]
          exact ih (i + 1)
  · rw [if_neg c, decide_eq_false (by omega : ¬ r.length ≤ 12)]; rfl
theorem rvA (r : List Int) : ref01_ValidAlphabet ⟨r⟩ = some (vA r) := by
  unfold ref01_ValidAlphabet vA
  simp only []
  by_cases c : 12 < (r.length : Int)
  · rw [if_pos c, decide_eq_false (by omega : ¬ r.length ≤ 12)]; rfl
  · rw [if_neg c, decide_eq_true (by omega : r.length ≤ 12), Bool.true_and, rangeL, if_pos (by omega)]
    suffices H : ∀ (l : List Int) (i : Nat), rangeC (fun i1 (x1 : Int) (s1 : Unit) n1 => if x1 < 0 then some false else if 3 < x1 then some false else n1 ()) l i () (fun _ => some true) = some (l.all fun x => decide (0 ≤ x ∧ x ≤ 3)) from H r 0
    intro l
    induction l with
    | nil => intro i; rw [rangeC]; rfl
    | cons x q ih =>
      intro i
      rw [rangeC, List.all_cons]
      by_cases c1 : x < 0
      · rw [if_pos c1, decide_eq_false (by omega : ¬ (0 ≤ x ∧ x ≤ 3))]; rfl
      · rw [if_neg c1]
        by_cases c2 : 3 < x
        · rw [if_pos c2, decide_eq_false (by omega : ¬ (0 ≤ x ∧ x ≤ 3))]; rfl
        · rw [if_neg c2, decide_eq_true (by omega : 0 ≤ x ∧ x ≤ 3), Bool.true_and]
          exact ih (i + 1)
def tvld (r : List Int) (t : Tree) : Bool := vA r && (decide ((tsT t : Int) ≤ 300) && shT r t)
theorem tvalid_eq (r : List Int) {n : Nat} {t : Tree} (hd : tdT t < n) (hw : twT t = true) : tree_Valid n ⟨r⟩ t = some (tvld r t) := by
  unfold tree_Valid tvld
  rw [hvA]
  simp only [Option.bind_some]
  cases vA r with
  | false => rfl
  | true =>
    rw [if_pos rfl, Bool.true_and]
    rcases tformed_eq r n t 300 hd hw (by omega) (by omega) with ⟨c, e⟩ | ⟨c, v, e⟩
    · rw [e, decide_eq_true c.1, c.2]; rfl
    · rw [e]
      simp only [Option.bind_some]
      congr 1
      cases h1 : shT r t with
      | false => simp
      | true => rw [decide_eq_false (fun h2 => c ⟨h2, h1⟩)]; rfl
theorem rtvalid_eq (r : List Int) {n : Nat} {t : Tree} (hd : tdT t < n) (hw : twT t = true) : ref01_Valid n ⟨r⟩ t = some (tvld r t) := by
  unfold ref01_Valid tvld
  rw [rvA]
  simp only [Option.bind_some]
  cases vA r with
  | false => rfl
  | true =>
    rw [if_pos rfl, Bool.true_and, tfew_eq hd hw (by omega) (by omega)]
    simp only [Option.bind_some]
    by_cases c3 : (tsT t : Int) ≤ 300
    · rw [decide_eq_true c3, if_pos rfl, shaped_eq r n t hd hw]; rfl
    · rw [decide_eq_false c3]; rfl
set_option linter.unusedVariables false
theorem ord_zero {a b : Int} : ord a b = 0 ↔ a = b := by
  unfold ord; repeat' split
  all_goals omega
theorem lexF_zero {f : Tree → Tree → Int} {n : Nat} (hf : ∀ a b, tdT a < n → (f a b = 0 ↔ a = b)) : ∀ us vs, tdL us < n + 1 → (lexF f us vs = 0 ↔ us = vs)
  | [], [], _ => by rw [lexF]; simp
  | [], _ :: _, _ => by rw [lexF]; simp
  | _ :: _, [], _ => by rw [lexF]; simp
  | a :: us, b :: vs, h => by
    obtain ⟨d1, d2⟩ := tdL_cons h
    rw [lexF]
    have h1 := hf a b d1
    have h2 := lexF_zero hf us vs d2
    by_cases c : f a b = 0
    · rw [if_pos c, h2, List.cons.injEq]; exact ⟨fun e => ⟨h1.1 c, e⟩, fun e => e.2⟩
    · rw [if_neg c, List.cons.injEq]; exact ⟨fun e => absurd e c, fun e => absurd (h1.2 e.1) c⟩
theorem cmpF_zero : ∀ (n : Nat) (x y : Tree), tdT x < n → (cmpF n x y = 0 ↔ x = y)
  | 0, x, y, h => by omega
  | n + 1, x, y, h => by
    rw [cmpF]
    rw [tdT_eq] at h
    have h2 := lexF_zero (f := cmpF n) (n := n) (fun a b d => cmpF_zero n a b d) x.Kids y.Kids h
    by_cases c1 : ord (tsT x) (tsT y) = 0
    · rw [if_pos c1]
      by_cases c2 : ord x.Sym y.Sym = 0
      · rw [if_pos c2, h2]
        constructor
        · intro e
          have := ord_zero.1 c2
          obtain ⟨s, k⟩ := x; obtain ⟨s', k'⟩ := y
          simp only [] at e this
          rw [e, this]
        · intro e; rw [e]
      · rw [if_neg c2]
        exact ⟨fun e => absurd e c2, fun e => absurd (ord_zero.2 (by rw [e])) c2⟩
    · rw [if_neg c1]
      exact ⟨fun e => absurd e c1, fun e => absurd (ord_zero.2 (by rw [e])) c1⟩
theorem same_eq : ∀ (n : Nat) (x y : Tree), tdT x < n → twT x = true → (x = y ∧ ref01_Same n x y = some true) ∨ (x ≠ y ∧ ref01_Same n x y = some false) := by
  intro n
  induction n with
  | zero => intro x y h; omega
  | succ n ih =>
    intro x y hd hw
    obtain ⟨w1, w2⟩ := tw_out hw
    rw [tdT_eq] at hd
    rw [ref01_Same]
    by_cases c1 : x.Sym = y.Sym
    · rw [if_pos c1]
      by_cases c2 : (x.Kids.length : Int) = y.Kids.length
      · rw [if_pos c2, rangeL, if_pos w1]
        suffices H : ∀ (us vs p : List Tree), us.length = vs.length → y.Kids = p ++ vs → tdL us < n + 1 → twL us = true →
          (us = vs ∧ rangeC (fun i1 x1 (s1 : Unit) n1 => (y.Kids[i1]?).bind fun v1 => (ref01_Same n x1 v1).bind fun v2 => if v2 = true then n1 () else some false) us p.length () (fun _ => some true) = some true) ∨
          (us ≠ vs ∧ rangeC (fun i1 x1 (s1 : Unit) n1 => (y.Kids[i1]?).bind fun v1 => (ref01_Same n x1 v1).bind fun v2 => if v2 = true then n1 () else some false) us p.length () (fun _ => some true) = some false) by
          rcases H x.Kids y.Kids [] (by omega) rfl hd w2 with ⟨e, h⟩ | ⟨e, h⟩
          · refine .inl ⟨?_, h⟩
            obtain ⟨s, k⟩ := x; obtain ⟨s', k'⟩ := y
            simp only [] at e c1
            rw [e, c1]
          · exact .inr ⟨fun ee => e (by rw [ee]), h⟩
        intro us
        induction us with
        | nil =>
          intro vs p hl _ _ _
          have : vs = [] := List.length_eq_zero_iff.1 hl.symm
          subst this
          exact .inl ⟨rfl, by rw [rangeC]⟩
        | cons a us iha =>
          intro vs p hl e h1 h2
          obtain ⟨d1, d2⟩ := tdL_cons h1
          obtain ⟨v1, v2⟩ := tw_cons h2
          match vs, hl with
          | b :: vs, hl =>
            have hb : y.Kids[p.length]? = some b := by rw [e, List.getElem?_append_right (Nat.le_refl _), Nat.sub_self]; rfl
            rw [rangeC, hb]
            simp only [Option.bind_some]
            rcases ih a b d1 v1 with ⟨e1, s1⟩ | ⟨e1, s1⟩
            · rw [s1]
              simp only [Option.bind_some, if_true]
              rcases iha vs (p ++ [b]) (by simpa using hl) (by rw [e]; simp) d2 v2 with ⟨e2, s2⟩ | ⟨e2, s2⟩
              · rw [List.length_append] at s2
                exact .inl ⟨by rw [e1, e2], s2⟩
              · rw [List.length_append] at s2
                exact .inr ⟨fun ee => e2 (List.cons.inj ee).2, s2⟩
            · rw [s1]
              exact .inr ⟨fun ee => e1 (List.cons.inj ee).1, rfl⟩
      · rw [if_neg c2]; exact .inr ⟨fun e => c2 (by rw [e]), rfl⟩
    · rw [if_neg c1]; exact .inr ⟨fun e => c1 (by rw [e]), rfl⟩
mutual
theorem twT_of : ∀ t : Tree, tsT t < 9223372036854775808 → twT t = true
  | .mk s k, h => by
    rw [tsT] at h
    have := tlen k
    rw [twT, decide_eq_true (by omega), twL_of k (by omega)]; rfl
theorem twL_of : ∀ l : List Tree, tsL l < 9223372036854775808 → twL l = true
  | [], _ => by rw [twL]
  | x :: r, h => by
    rw [tsL] at h
    rw [twL, twT_of x (by omega), twL_of r (by omega)]; rfl
end
set_option linter.unusedVariables false
theorem copy_eq : ∀ (n : Nat) (t : Tree), tdT t < n → tsT t ≤ 1000000 → repair_copied n t = some t := by
  intro n
  induction n with
  | zero => intro t hd; omega
  | succ n ih =>
    intro t hd hs
    rw [tdT_eq] at hd
    have hlen := tlen t.Kids
    rw [tsT_eq] at hs
    rw [repair_copied, rangeL, if_pos (by omega)]
    suffices H : ∀ (l : List Tree) (i : Nat) (q : List Tree) (k : List Tree → Option Tree), tdL l < n + 1 → q.length + tsL l ≤ 1000000 → rangeC (fun i1 x1 (s1 : List Tree) n1 => (repair_copied n x1).bind fun v1 => (app 32 s1 [v1]).bind fun v2 => n1 v2) l i q k = k (q ++ l) by
      rw [H t.Kids 0 [] _ hd (by rw [List.length_nil]; omega), List.nil_append]
      cases t; rfl
    intro l
    induction l with
    | nil => intro i q k _ _; rw [rangeC, List.append_nil]
    | cons x r ihr =>
      intro i q k hd h1
      obtain ⟨d1, d2⟩ := tdL_cons hd
      have hx := tsT_eq x
      rw [tsL] at h1
      rw [rangeC, ih x d1 (by omega)]
      simp only [Option.bind_some]
      rw [app_ok (by simp only [List.length_cons, List.length_nil]; omega)]
      simp only [Option.bind_some]
      rw [ihr _ _ _ d2 (by rw [List.length_append]; simp only [List.length_cons, List.length_nil]; omega), List.append_assoc]
      rfl
end Go.AM.S22

namespace Go.AM.S22
open Go Go.Proofs Go.AM
set_option linter.unusedVariables false
def allI {α : Type} (ok : Nat → α → Bool) : Nat → List α → Bool
  | _, [] => true
  | i, x :: r => ok i x && allI ok (i + 1) r
theorem chk {α R : Type} {body : Nat → α → Unit → (Unit → Option R) → Option R} {ok : Nat → α → Bool} {f : Option R} : ∀ (l : List α) (i : Nat) (k : Unit → Option R), (∀ j x n1, l[j]? = some x → body (i + j) x () n1 = if ok (i + j) x = true then n1 () else f) →
    rangeC body l i () k = if allI ok i l = true then k () else f
  | [], i, k, _ => by rw [rangeC, allI, if_pos rfl]
  | x :: l, i, k, h => by
    have h0 := h 0 x (fun u => rangeC body l (i + 1) u k) rfl
    rw [Nat.add_zero] at h0
    rw [rangeC, allI]
    rw [show (fun s' => rangeC body l (i + 1) s' k) = (fun u => rangeC body l (i + 1) u k) from rfl, h0]
    cases hk : ok i x with
    | false => simp
    | true =>
      simp only [if_true, Bool.true_and]
      exact chk l (i + 1) k (fun j y n1 hj => by have := h (j + 1) y n1 (by simpa using hj); rwa [show i + (j + 1) = i + 1 + j by omega] at this)
theorem allI_all {α : Type} {ok : α → Bool} : ∀ (l : List α) (i : Nat), allI (fun _ x => ok x) i l = l.all ok
  | [], _ => rfl
  | x :: l, i => by rw [allI, allI_all l, List.all_cons]
def stOk (m s : Int) : Bool := decide (0 ≤ s ∧ s < m)
def rOk (r : List Int) (m : Int) (x : Rule) : Bool := decide (0 ≤ x.Sym ∧ x.Sym < r.length ∧ (x.From.length : Int) = rk r x.Sym) && (stOk m x.To && x.From.all (stOk m))
def fOk (F : List Int) (m : Int) (i : Nat) (x : Int) : Bool := stOk m x && (decide (i = 0) || decide ((F[i - 1]?).getD 0 < x))
def aV (r : List Int) (a : Automaton) : Bool := vA r && (decide (0 ≤ a.States ∧ a.States ≤ 300 ∧ (a.Rules.length : Int) ≤ 20000) && (allI (fOk a.Final a.States) 0 a.Final && a.Rules.all (rOk r a.States)))
structure AW (a : Automaton) : Prop where
  fin : a.Final.length < 9223372036854775808
  rul : a.Rules.length < 9223372036854775808
  frm : ∀ x ∈ a.Rules, x.From.length < 9223372036854775808
theorem idx_prev {F : List Int} {i : Nat} {x : Int} (h : F[i]? = some x) (hi : 0 < i) (hl : F.length < 9223372036854775808) : idx F (w64 ((i : Int) - 1)) = some ((F[i - 1]?).getD 0) := by
  have hlt := (List.getElem?_eq_some_iff.1 h).1
  rw [w64_eq (by omega) (by omega)]
  unfold idx
  rw [if_pos (by omega), show ((i : Int) - 1).toNat = i - 1 by omega, List.getElem?_eq_getElem (by omega)]
  rfl
theorem auto_eq (r : List Int) (a : Automaton) (w : AW a) : auto_Valid ⟨r⟩ a = some (aV r a) := by
  unfold auto_Valid aV
  rw [hvA]
  simp only [Option.bind_some]
  cases vA r with
  | false => rfl
  | true =>
    simp only [if_true, Bool.true_and]
    by_cases c1 : a.States < 0
    · rw [if_pos c1, decide_eq_false (by omega)]; rfl
    rw [if_neg c1]
    by_cases c2 : 300 < a.States
    · rw [if_pos c2, decide_eq_false (by omega)]; rfl
    rw [if_neg c2]
    by_cases c3 : 20000 < (a.Rules.length : Int)
    · rw [if_pos c3, decide_eq_false (by omega)]; rfl
    rw [if_neg c3, decide_eq_true (by omega), Bool.true_and]
    rw [rangeL, if_pos w.fin]
    rw [chk (ok := fOk a.Final a.States) (f := some false) a.Final 0 _ (fun j x n1 hj => by
      rw [Nat.zero_add]
      unfold jn fOk stOk
      dsimp only
      by_cases d1 : 0 ≤ x
      · rw [if_pos d1]
        by_cases d2 : x < a.States
        · rw [decide_eq_true d2, if_pos rfl, decide_eq_true (⟨d1, d2⟩ : 0 ≤ x ∧ x < a.States), Bool.true_and]
          by_cases d3 : 0 < (j : Int)
          · rw [if_pos d3, idx_prev hj (by omega) w.fin, decide_eq_false (show ¬ j = 0 by omega), Bool.false_or]
            simp only [Option.bind_some]
            by_cases d4 : x ≤ (a.Final[j - 1]?).getD 0
            · rw [if_pos d4, decide_eq_false (by omega)]; rfl
            · rw [if_neg d4, decide_eq_true (by omega)]; rfl
          · rw [if_neg d3, decide_eq_true (show j = 0 by omega)]; rfl
        · rw [decide_eq_false d2, decide_eq_false (show ¬ (0 ≤ x ∧ x < a.States) from fun h => d2 h.2)]; rfl
      · rw [if_neg d1, decide_eq_false (show ¬ (0 ≤ x ∧ x < a.States) from fun h => d1 h.1)]; rfl)]
    cases allI (fOk a.Final a.States) 0 a.Final with
    | false => rfl
    | true =>
      simp only [if_true, Bool.true_and]
      rw [rangeL, if_pos w.rul]
      rw [chk (ok := fun _ x => rOk r a.States x) (f := some false) a.Rules 0 _ (fun j x n1 hj => by
        have hx := List.mem_of_getElem? hj
        unfold rOk
        by_cases d1 : x.Sym < 0
        · rw [if_pos d1, decide_eq_false (fun h => by omega)]; rfl
        rw [if_neg d1]
        by_cases d2 : (r.length : Int) ≤ x.Sym
        · rw [if_pos d2, decide_eq_false (fun h => by omega)]; rfl
        rw [if_neg d2, rk_get (by omega) (by omega)]
        simp only [Option.bind_some]
        by_cases d3 : (x.From.length : Int) = rk r x.Sym
        · rw [if_pos d3, decide_eq_true (show 0 ≤ x.Sym ∧ x.Sym < (r.length : Int) ∧ (x.From.length : Int) = rk r x.Sym from ⟨by omega, by omega, d3⟩), Bool.true_and]
          unfold jn
          dsimp only
          have hfr : rangeL x.From () (fun k4 i4 x4 (s4 : Unit) n4 => if 0 ≤ x4 then (if decide (x4 < a.States) = true then n4 () else some false) else (if false = true then n4 () else some false)) (fun s4 => n1 ()) = if x.From.all (stOk a.States) = true then n1 () else some false := by
            rw [rangeL, if_pos (w.frm x hx)]
            rw [chk (ok := fun _ s => stOk a.States s) (f := some false) x.From 0 _ (fun j y n1 _ => by
              unfold stOk
              by_cases e1 : 0 ≤ y
              · by_cases e2 : y < a.States
                · simp [e1, e2]
                · simp [e1, e2]
              · simp [e1]), allI_all]
          by_cases d4 : 0 ≤ x.To
          · rw [if_pos d4]
            by_cases d5 : x.To < a.States
            · rw [decide_eq_true d5, if_pos rfl]
              rw [show stOk a.States x.To = true from decide_eq_true ⟨d4, d5⟩, Bool.true_and]
              exact hfr
            · rw [decide_eq_false d5, show stOk a.States x.To = false from decide_eq_false (fun h => d5 h.2)]; rfl
          · rw [if_neg d4, show stOk a.States x.To = false from decide_eq_false (fun h => d4 h.1)]; rfl
        · rw [if_neg d3, decide_eq_false (show ¬ (0 ≤ x.Sym ∧ x.Sym < (r.length : Int) ∧ (x.From.length : Int) = rk r x.Sym) from fun h => d3 h.2.2)]; rfl), allI_all]
      cases a.Rules.all (rOk r a.States) <;> rfl
theorem rauto_eq (r : List Int) (a : Automaton) (w : AW a) : ref03_Valid ⟨r⟩ a = some (aV r a) := by
  unfold ref03_Valid aV
  rw [rvA]
  simp only [Option.bind_some]
  cases vA r with
  | false => rfl
  | true =>
    simp only [if_true, Bool.true_and]
    by_cases c1 : a.States < 0
    · rw [if_pos c1, decide_eq_false (by omega)]; rfl
    rw [if_neg c1]
    by_cases c2 : 300 < a.States
    · rw [if_pos c2, decide_eq_false (by omega)]; rfl
    rw [if_neg c2]
    by_cases c3 : 20000 < (a.Rules.length : Int)
    · rw [if_pos c3, decide_eq_false (by omega)]; rfl
    rw [if_neg c3, decide_eq_true (by omega), Bool.true_and]
    rw [rangeL, if_pos w.fin]
    rw [chk (ok := fOk a.Final a.States) (f := some false) a.Final 0 _ (fun j x n1 hj => by
      rw [Nat.zero_add]
      unfold fOk stOk
      by_cases d1 : x < 0
      · rw [if_pos d1, decide_eq_false (show ¬ (0 ≤ x ∧ x < a.States) from fun h => by omega)]; rfl
      rw [if_neg d1]
      by_cases d2 : a.States ≤ x
      · rw [if_pos d2, decide_eq_false (show ¬ (0 ≤ x ∧ x < a.States) from fun h => by omega)]; rfl
      rw [if_neg d2, decide_eq_true (show 0 ≤ x ∧ x < a.States by omega), Bool.true_and]
      by_cases d3 : 0 < (j : Int)
      · rw [if_pos d3, idx_prev hj (by omega) w.fin, decide_eq_false (show ¬ j = 0 by omega), Bool.false_or]
        simp only [Option.bind_some]
        by_cases d4 : x ≤ (a.Final[j - 1]?).getD 0
        · rw [if_pos d4, decide_eq_false (by omega)]; rfl
        · rw [if_neg d4, decide_eq_true (by omega)]; rfl
      · rw [if_neg d3, decide_eq_true (show j = 0 by omega)]; rfl)]
    cases allI (fOk a.Final a.States) 0 a.Final with
    | false => rfl
    | true =>
      simp only [if_true, Bool.true_and]
      rw [rangeL, if_pos w.rul]
      rw [chk (ok := fun _ x => rOk r a.States x) (f := some false) a.Rules 0 _ (fun j x n1 hj => by
        have hx := List.mem_of_getElem? hj
        unfold rOk
        by_cases d1 : x.Sym < 0
        · rw [if_pos d1, decide_eq_false (fun h => by omega)]; rfl
        rw [if_neg d1]
        by_cases d2 : (r.length : Int) ≤ x.Sym
        · rw [if_pos d2, decide_eq_false (fun h => by omega)]; rfl
        rw [if_neg d2, rk_get (by omega) (by omega)]
        simp only [Option.bind_some]
        by_cases d3 : (x.From.length : Int) = rk r x.Sym
        · rw [if_pos d3, decide_eq_true (show 0 ≤ x.Sym ∧ x.Sym < (r.length : Int) ∧ (x.From.length : Int) = rk r x.Sym from ⟨by omega, by omega, d3⟩), Bool.true_and]
          by_cases d4 : x.To < 0
          · rw [if_pos d4, show stOk a.States x.To = false from decide_eq_false (fun h => by omega)]; rfl
          rw [if_neg d4]
          by_cases d5 : a.States ≤ x.To
          · rw [if_pos d5, show stOk a.States x.To = false from decide_eq_false (fun h => by omega)]; rfl
          rw [if_neg d5, show stOk a.States x.To = true from decide_eq_true ⟨by omega, by omega⟩, Bool.true_and, rangeL, if_pos (w.frm x hx)]
          rw [chk (ok := fun _ s => stOk a.States s) (f := some false) x.From 0 _ (fun j y n1 _ => by
            unfold stOk
            by_cases e1 : y < 0
            · rw [if_pos e1, decide_eq_false (fun h => by omega)]; rfl
            rw [if_neg e1]
            by_cases e2 : a.States ≤ y
            · rw [if_pos e2, decide_eq_false (fun h => by omega)]; rfl
            rw [if_neg e2, decide_eq_true ⟨by omega, by omega⟩]; rfl), allI_all]
        · rw [if_neg d3, decide_eq_false (show ¬ (0 ≤ x.Sym ∧ x.Sym < (r.length : Int) ∧ (x.From.length : Int) = rk r x.Sym) from fun h => d3 h.2.2)]; rfl), allI_all]
      cases a.Rules.all (rOk r a.States) <;> rfl
def fewB (r : List Int) (a : Automaton) (t : Tree) : Bool := decide ((tsT t : Int) ≤ 80) && (a.Rules.all (fun x => decide (x.From.length ≤ 30)) && (decide (r.length ≤ 60) && ((decide (a.States ≤ 40) || decide (300 < a.States)) && (decide (a.Rules.length ≤ 400) && decide (a.Final.length ≤ 400)))))
theorem few_eq {n : Nat} (r : List Int) (a : Automaton) (t : Tree) (w : AW a) (hd : tdT t < n) (hw : twT t = true) : law22_few n ⟨r⟩ a [t] = some (fewB r a t) := by
  unfold law22_few fewB
  rw [rangeL, if_pos (by simp only [List.length_cons, List.length_nil]; omega)]
  simp only [rangeC]
  rw [tfew_eq hd hw (by omega) (by omega)]
  simp only [Option.bind_some]
  cases decide ((tsT t : Int) ≤ 80) with
  | false => rfl
  | true =>
    simp only [if_true, Bool.true_and]
    rw [rangeL, if_pos w.rul]
    rw [chk (ok := fun _ x => decide (x.From.length ≤ 30)) (f := some false) a.Rules 0 _ (fun j x n1 hj => by
      by_cases e : 30 < (x.From.length : Int)
      · rw [if_pos e, decide_eq_false (by omega)]; rfl
      · rw [if_neg e, decide_eq_true (by omega)]; rfl), allI_all]
    cases a.Rules.all (fun x => decide (x.From.length ≤ 30)) with
    | false => rfl
    | true =>
      simp only [if_true, Bool.true_and]
      by_cases c1 : (r.length : Int) ≤ 60
      · rw [if_pos c1, decide_eq_true (show r.length ≤ 60 by omega), Bool.true_and]
        have e3 : (if (a.Rules.length : Int) ≤ 400 then some (decide ((a.Final.length : Int) ≤ 400)) else some false) = some (decide (a.Rules.length ≤ 400) && decide (a.Final.length ≤ 400)) := by
          by_cases c3 : (a.Rules.length : Int) ≤ 400
          · rw [if_pos c3, decide_eq_true (show a.Rules.length ≤ 400 by omega), Bool.true_and]
            congr 1
            by_cases c4 : a.Final.length ≤ 400
            · rw [decide_eq_true (by omega), decide_eq_true c4]
            · rw [decide_eq_false (by omega), decide_eq_false c4]
          · rw [if_neg c3, decide_eq_false (show ¬ a.Rules.length ≤ 400 by omega)]; rfl
        by_cases c2 : a.States ≤ 40
        · rw [if_pos c2, decide_eq_true c2, Bool.true_or, Bool.true_and]; exact e3
        · rw [if_neg c2, decide_eq_false c2, Bool.false_or]
          by_cases c4 : 300 < a.States
          · rw [if_pos c4, decide_eq_true c4, Bool.true_and]; exact e3
          · rw [if_neg c4, decide_eq_false c4]; rfl
      · rw [if_neg c1, decide_eq_false (show ¬ r.length ≤ 60 by omega)]; rfl
end Go.AM.S22

namespace Go.AM.S22
open Go Go.Proofs Go.AM
set_option linter.unusedVariables false
theorem td_mem : ∀ {l : List Tree} {x : Tree}, x ∈ l → tdT x + 1 ≤ tdL l
  | [], _, h => by cases h
  | y :: l, x, h => by
    rw [tdL]
    rcases List.mem_cons.1 h with rfl | h
    · omega
    · have := td_mem h; omega
theorem ts_mem : ∀ {l : List Tree} {x : Tree}, x ∈ l → tsT x ≤ tsL l
  | [], _, h => by cases h
  | y :: l, x, h => by
    rw [tsL]
    rcases List.mem_cons.1 h with rfl | h
    · omega
    · have := ts_mem h; omega
theorem foldC {α S R : Type} {body : Nat → α → S → (S → Option R) → Option R} {step : S → α → S} (I : S → Prop) : ∀ (l : List α) (i : Nat) (s : S) (k : S → Option R), I s → (∀ j x s n1, x ∈ l → I s → body j x s n1 = n1 (step s x)) → (∀ x s, x ∈ l → I s → I (step s x)) →
    rangeC body l i s k = k (l.foldl step s) ∧ I (l.foldl step s)
  | [], i, s, k, h, _, _ => ⟨by rw [rangeC]; rfl, h⟩
  | x :: l, i, s, k, h, hb, hi => by
    have ih := foldC I l (i + 1) (step s x) k (hi x s (by simp) h) (fun j y s n1 hy => hb j y s n1 (List.mem_cons_of_mem _ hy)) (fun y s hy => hi y s (List.mem_cons_of_mem _ hy))
    exact ⟨by rw [rangeC, hb i x s _ (by simp) h, List.foldl_cons]; exact ih.1, ih.2⟩
structure OKa (a : Automaton) : Prop where
  st : 0 ≤ a.States ∧ a.States ≤ 300
  rul : a.Rules.length ≤ 400
  fin : a.Final.length ≤ 400
  frm : ∀ x ∈ a.Rules, x.From.length ≤ 30
  to : ∀ x ∈ a.Rules, 0 ≤ x.To ∧ x.To < a.States
  from' : ∀ x ∈ a.Rules, ∀ s ∈ x.From, 0 ≤ s ∧ s < a.States
  fins : ∀ s ∈ a.Final, 0 ≤ s ∧ s < a.States
theorem idx_get {m : Nat} {α : Type} {row : List α} {z : α} {x : Int} (hr : row.length = m) (h0 : 0 ≤ x) (h1 : x < (m : Int)) : idx row x = some ((row[x.toNat]?).getD z) := by
  unfold idx
  rw [if_pos h0, List.getElem?_eq_getElem (by omega)]; rfl
theorem cut_eq {l base k : Nat} (hl : l = base + k) (hb : base ≤ 500) (hk : k ≤ 500) : cutM l (w64 ((l : Int) - (k : Int))) = some base := by
  rw [w64_eq (by omega) (by omega)]
  unfold cutM
  rw [if_pos (by omega)]
  congr 1
  omega
theorem allI_get {α : Type} {ok : Nat → α → Bool} : ∀ (l : List α) (i : Nat), allI ok i l = true → ∀ x ∈ l, ∃ j, ok j x = true
  | [], _, _, x, h => by cases h
  | y :: l, i, ha, x, h => by
    rw [allI, Bool.and_eq_true] at ha
    rcases List.mem_cons.1 h with rfl | h
    · exact ⟨i, ha.1⟩
    · exact allI_get l (i + 1) ha.2 x h
theorem stOk_iff {m s : Int} (h : stOk m s = true) : 0 ≤ s ∧ s < m := of_decide_eq_true h
theorem ok_of {r : List Int} {a : Automaton} {t : Tree} (hv : aV r a = true) (hf : fewB r a t = true) : OKa a := by
  unfold aV at hv
  unfold fewB at hf
  simp only [Bool.and_eq_true, decide_eq_true_eq, List.all_eq_true, Bool.or_eq_true] at hv hf
  obtain ⟨v1, ⟨v2, v3, v4⟩, v5, v6⟩ := hv
  obtain ⟨f1, f2, f3, f4, f5, f6⟩ := hf
  refine ⟨⟨v2, v3⟩, f5, f6, f2, fun x hx => ?_, fun x hx s hs => ?_, fun s hs => ?_⟩
  · have := v6 x hx
    unfold rOk at this
    simp only [Bool.and_eq_true] at this
    exact stOk_iff this.2.1
  · have := v6 x hx
    unfold rOk at this
    simp only [Bool.and_eq_true, List.all_eq_true] at this
    exact stOk_iff (this.2.2 s hs)
  · obtain ⟨j, hj⟩ := allI_get _ _ v5 s hs
    unfold fOk at hj
    rw [Bool.and_eq_true] at hj
    exact stOk_iff hj.1
end Go.AM.S22

namespace Go.AM.S22
open Go Go.Proofs Go.AM
set_option linter.unusedVariables false
def lexI : List Int → List Int → Int
  | [], [] => 0
  | [], _ :: _ => -1
  | _ :: _, [] => 1
  | a :: x, b :: y => if ord a b = 0 then lexI x y else ord a b
def lexLL : List (List Int) → List (List Int) → Int
  | a :: x, b :: y => if lexI a b = 0 then lexLL x y else lexI a b
  | _, _ => 0
theorem compare_lex (a b : List Int) (h : a.length < 9223372036854775808) : slices_Compare_Lint_int a b = some (lexI a b) := by
  unfold slices_Compare_Lint_int
  rw [rangeL, if_pos h]
  suffices H : ∀ (us p vs : List Int), b = p ++ vs → a.length = p.length + us.length → rangeC (fun i1 x1 (s1 : Unit) n1 => if (b.length : Int) ≤ (i1 : Int) then some 1 else (b[i1]?).bind fun v1 => (cmp_Compare_int x1 v1).bind fun v2 => if v2 = 0 then n1 () else some v2) us p.length () (fun _ => if (a.length : Int) < (b.length : Int) then some (-1) else some 0) = some (lexI us vs) by
    exact H a [] b rfl (by simp)
  intro us
  induction us with
  | nil =>
    intro p vs e hl
    rw [List.length_nil] at hl
    have hb : b.length = p.length + vs.length := by rw [e, List.length_append]
    rw [rangeC]
    cases vs with
    | nil => rw [List.length_nil] at hb; rw [if_neg (by omega), lexI]
    | cons v vs => rw [List.length_cons] at hb; rw [if_pos (by omega), lexI]
  | cons x us ih =>
    intro p vs e hl
    have hb : b.length = p.length + vs.length := by rw [e, List.length_append]
    rw [List.length_cons] at hl
    rw [rangeC]
    cases vs with
    | nil => rw [List.length_nil] at hb; rw [if_pos (by omega), lexI]
    | cons v vs =>
      rw [List.length_cons] at hb
      rw [if_neg (by omega)]
      rw [show b[p.length]? = some v by rw [e, List.getElem?_append_right (Nat.le_refl _), Nat.sub_self]; rfl]
      simp only [Option.bind_some]
      rw [compare_int]
      simp only [Option.bind_some]
      rw [lexI]
      by_cases c : ord x v = 0
      · rw [if_pos c, if_pos c]
        have := ih (p ++ [v]) vs (by rw [e]; simp) (by rw [List.length_append]; simp; omega)
        rw [List.length_append] at this
        exact this
      · rw [if_neg c, if_neg c]
theorem less_lex (a b : List Int) (h : a.length < 9223372036854775808) : ref03_Less a b = some (lexI a b) := by
  unfold ref03_Less
  have hm : minI (a.length : Int) (b.length : Int) = ((min a.length b.length : Nat) : Int) := by unfold minI; split <;> omega
  rw [hm, rangeI, if_pos (by omega), Int.toNat_natCast]
  suffices H : ∀ (us p q vs : List Int), a = p ++ us → b = q ++ vs → p.length = q.length → rangeC (fun i1 (_ : Unit) (s1 : Unit) n1 => (a[i1]?).bind fun v1 => (b[i1]?).bind fun v2 => if v1 < v2 then some (-1) else if v2 < v1 then some 1 else n1 ()) (List.replicate (min us.length vs.length) ()) p.length () (fun _ => if (a.length : Int) < (b.length : Int) then some (-1) else if (b.length : Int) < (a.length : Int) then some 1 else some 0) = some (lexI us vs) by
    exact H a [] [] b rfl rfl rfl
  intro us
  induction us with
  | nil =>
    intro p q vs ea eb hl
    rw [List.length_nil, Nat.zero_min, List.replicate_zero, rangeC]
    have hla : a.length = p.length := by rw [ea]; simp
    cases vs with
    | nil =>
      have hlb : b.length = q.length := by rw [eb]; simp
      rw [if_neg (by omega), if_neg (by omega), lexI]
    | cons v vs =>
      have hlb : b.length = q.length + (vs.length + 1) := by rw [eb]; simp
      rw [if_pos (by omega), lexI]
  | cons x us ih =>
    intro p q vs ea eb hl
    have hla : a.length = p.length + (us.length + 1) := by rw [ea]; simp
    cases vs with
    | nil =>
      have hlb : b.length = q.length := by rw [eb]; simp
      rw [List.length_nil, Nat.min_zero, List.replicate_zero, rangeC, if_neg (by omega), if_pos (by omega), lexI]
    | cons v vs =>
      rw [show min (x :: us).length (v :: vs).length = min us.length vs.length + 1 by simp only [List.length_cons]; omega, List.replicate_succ, rangeC]
      rw [show a[p.length]? = some x by rw [ea, List.getElem?_append_right (Nat.le_refl _), Nat.sub_self]; rfl]
      rw [show b[p.length]? = some v by rw [eb, hl, List.getElem?_append_right (Nat.le_refl _), Nat.sub_self]; rfl]
      simp only [Option.bind_some]
      have ih := ih (p ++ [x]) (q ++ [v]) vs (by rw [ea]; simp) (by rw [eb]; simp) (by simp [hl])
      rw [List.length_append] at ih
      rw [lexI]
      unfold ord
      by_cases c1 : x < v
      · rw [if_pos c1, if_pos c1, if_neg (by decide)]
      · rw [if_neg c1, if_neg c1]
        by_cases c2 : v < x
        · rw [if_pos c2, if_pos c2, if_neg (by decide)]
        · rw [if_neg c2, if_neg c2, if_pos rfl]
          exact ih
def cutB (c d : ref22_cut) : Bool := if d.some = true then (if c.nodes = d.nodes then (if c.l.length = d.l.length then decide (lexLL c.l d.l < 0) else decide (c.l.length < d.l.length)) else decide (c.nodes < d.nodes)) else true
structure SmL (l : List (List Int)) : Prop where
  n : l.length ≤ 1000
  e : ∀ p ∈ l, p.length ≤ 1000
theorem earlier_eq (x y : List (List Int)) (hx : SmL x) (hl : x.length = y.length) : ref22_earlier x y = some (decide (lexLL x y < 0)) := by
  unfold ref22_earlier
  have hn := hx.n
  rw [rangeL, if_pos (by omega)]
  suffices H : ∀ (us p vs : List (List Int)), y = p ++ vs → us.length = vs.length → (∀ u ∈ us, u.length ≤ 1000) → rangeC (fun i1 x1 (s1 : Unit) n1 => (y[i1]?).bind fun v1 => (ref03_Less x1 v1).bind fun v2 => if v2 = 0 then n1 () else some (decide (v2 < 0))) us p.length () (fun _ => some false) = some (decide (lexLL us vs < 0)) by
    exact H x [] y rfl hl hx.e
  intro us
  induction us with
  | nil => intro p vs e _ _; rw [rangeC, lexLL, decide_eq_false (by omega)]; exact fun _ _ _ _ h => by cases h
  | cons u us ih =>
    intro p vs e hl hu
    cases vs with
    | nil => simp at hl
    | cons v vs =>
      have h1 := hu u (by simp)
      rw [rangeC, show y[p.length]? = some v by rw [e, List.getElem?_append_right (Nat.le_refl _), Nat.sub_self]; rfl]
      simp only [Option.bind_some]
      rw [less_lex u v (by omega)]
      simp only [Option.bind_some]
      rw [lexLL]
      by_cases c : lexI u v = 0
      · rw [if_pos c, if_pos c]
        have := ih (p ++ [v]) vs (by rw [e]; simp) (by simpa using hl) (fun w hw => hu w (List.mem_cons_of_mem _ hw))
        rw [List.length_append] at this
        exact this
      · rw [if_neg c, if_neg c]
theorem cutless_eq (c d : ref22_cut) (hc : SmL c.l) : ref22_cut_less c d = some (cutB c d) := by
  unfold ref22_cut_less cutB
  by_cases c1 : d.some = true
  · rw [if_pos c1, if_pos c1]
    by_cases c2 : c.nodes = d.nodes
    · rw [if_pos c2, if_pos c2]
      by_cases c3 : c.l.length = d.l.length
      · rw [if_pos (by omega), if_pos c3, earlier_eq _ _ hc c3]; rfl
      · rw [if_neg (by omega), if_neg c3]
        congr 1
        by_cases c4 : c.l.length < d.l.length
        · rw [decide_eq_true (by omega), decide_eq_true c4]
        · rw [decide_eq_false (by omega), decide_eq_false c4]
    · rw [if_neg c2, if_neg c2]
  · rw [if_neg c1, if_neg c1]
theorem fewer_eq (c d : ref22_cut) (hc : SmL c.l) (k : Bool) : repair_fewer ⟨k, c.nodes, c.l⟩ ⟨d.some, d.nodes, d.l⟩ = some (cutB c d) := by
  unfold repair_fewer cutB
  simp only []
  by_cases c1 : d.some = true
  · rw [if_pos c1, if_pos c1]
    by_cases c2 : c.nodes = d.nodes
    · rw [if_pos c2, if_pos c2]
      by_cases c3 : c.l.length = d.l.length
      · rw [if_pos (by omega), if_pos c3]
        unfold jn
        have hn := hc.n
        simp only []
        rw [rangeL, if_pos (by omega)]
        suffices H : ∀ (us p vs : List (List Int)), d.l = p ++ vs → us.length = vs.length → (∀ u ∈ us, u.length ≤ 1000) → rangeC (fun i1 x1 (s1 : Unit) n1 => if (d.l.length : Int) ≤ (i1 : Int) then some (decide ((1 : Int) < 0)) else (d.l[i1]?).bind fun v1 => (repair_fewer_1 x1 v1).bind fun v2 => if v2 = 0 then n1 () else some (decide (v2 < 0))) us p.length () (fun _ => if (c.l.length : Int) < (d.l.length : Int) then some (decide ((-1 : Int) < 0)) else some (decide ((0 : Int) < 0))) = some (decide (lexLL us vs < 0)) by
          exact H c.l [] d.l rfl c3 hc.e
        intro us
        induction us with
        | nil =>
          intro p vs e _ _
          rw [rangeC, lexLL, if_neg (by omega)]
          exact fun _ _ _ _ h => by cases h
        | cons u us ih =>
          intro p vs e hl hu
          cases vs with
          | nil => simp at hl
          | cons v vs =>
            have h1 := hu u (by simp)
            rw [rangeC, if_neg (by rw [e]; simp only [List.length_append, List.length_cons]; omega), show d.l[p.length]? = some v by rw [e, List.getElem?_append_right (Nat.le_refl _), Nat.sub_self]; rfl]
            simp only [Option.bind_some]
            unfold repair_fewer_1
            rw [compare_lex u v (by omega)]
            simp only [Option.bind_some]
            rw [lexLL]
            by_cases c : lexI u v = 0
            · rw [if_pos c, if_pos c]
              have := ih (p ++ [v]) vs (by rw [e]; simp) (by simpa using hl) (fun w hw => hu w (List.mem_cons_of_mem _ hw))
              rw [List.length_append] at this
              exact this
            · rw [if_neg c, if_neg c]
      · rw [if_neg (by omega), if_neg c3]
        congr 1
        by_cases c4 : c.l.length < d.l.length
        · rw [decide_eq_true (by omega), decide_eq_true c4]
        · rw [decide_eq_false (by omega), decide_eq_false c4]
    · rw [if_neg c2, if_neg c2]
  · rw [if_neg c1, if_neg c1]
end Go.AM.S22

namespace Go.AM.S22
open Go Go.Proofs Go.AM
set_option linter.unusedVariables false
def plusI (a b : Int) : Int := if 4611686018427387904 ≤ a + b then 4611686018427387904 else a + b
theorem eplus_eq {a b : Int} (a0 : 0 ≤ a) (a1 : a ≤ 4611686018427387904) (b0 : 0 ≤ b) (b1 : b ≤ 4611686018427387904) : empty_plus a b = some (plusI a b) := by
  unfold empty_plus plusI
  by_cases c1 : 4611686018427387904 ≤ a
  · rw [if_pos c1, if_pos (by omega)]
  · rw [if_neg c1]
    by_cases c2 : 4611686018427387904 ≤ b
    · rw [if_pos c2, if_pos (by omega)]
    · rw [if_neg c2, w64_eq (by omega) (by omega)]
      unfold minI
      split <;> split <;> first | rfl | (congr 1; omega)
theorem rplus_eq {a b : Int} (a0 : 0 ≤ a) (a1 : a ≤ 4611686018427387904) (b0 : 0 ≤ b) (b1 : b ≤ 4611686018427387904) : ref06_plus a b = some (plusI a b) := by
  unfold ref06_plus plusI
  rw [w64_eq (by omega) (by omega)]
  by_cases c1 : 4611686018427387904 - b < a
  · rw [if_pos c1, if_pos (by omega)]
  · rw [if_neg c1, w64_eq (by omega) (by omega)]
    split
    · congr 1; omega
    · rfl
def gz (v : List Int) (x : Int) : Int := (v[x.toNat]?).getD 0
def sumZ (v : List Int) : List Int → Int → Int
  | [], s => s
  | x :: xs, s => if gz v x = 0 then 0 else sumZ v xs (plusI s (gz v x))
structure ZV (m : Nat) (v : List Int) : Prop where
  len : v.length = m
  bd : ∀ x ∈ v, 0 ≤ x ∧ x ≤ 4611686018427387904
theorem ZV.gz {m : Nat} {v : List Int} (h : ZV m v) (x : Int) : 0 ≤ gz v x ∧ gz v x ≤ 4611686018427387904 := by
  unfold S22.gz
  cases e : v[x.toNat]? with
  | none => simp
  | some y => exact h.bd y (List.mem_of_getElem? e)
theorem ZV.idxM {m : Nat} {v : List Int} (h : ZV m v) {x : Int} (h0 : 0 ≤ x) (h1 : x < (m : Int)) : idxM m v x = some (S22.gz v x) := by
  unfold Go.AM.idxM S22.gz
  rw [if_pos (by omega), List.getElem?_eq_getElem (by rw [h.len]; omega)]; rfl
theorem plusI_bd {a b : Int} (a0 : 1 ≤ a) (b0 : 0 ≤ b) : 1 ≤ plusI a b ∧ plusI a b ≤ 4611686018427387904 := by
  unfold plusI; split <;> omega
theorem sumZ_bd {m : Nat} {v : List Int} (h : ZV m v) : ∀ (xs : List Int) (s : Int), 1 ≤ s → s ≤ 4611686018427387904 → 0 ≤ sumZ v xs s ∧ sumZ v xs s ≤ 4611686018427387904 ∧ (0 < sumZ v xs s ↔ ∀ x ∈ xs, 0 < gz v x)
  | [], s, h1, h2 => by rw [sumZ]; exact ⟨by omega, h2, ⟨fun _ _ h => by (cases h), fun _ => by omega⟩⟩
  | x :: xs, s, h1, h2 => by
    have hg := h.gz x
    rw [sumZ]
    by_cases c : gz v x = 0
    · rw [if_pos c]
      refine ⟨by omega, by omega, ⟨fun h => by omega, fun h => ?_⟩⟩
      have := h x (by simp)
      omega
    · rw [if_neg c]
      have hb := plusI_bd h1 hg.1
      obtain ⟨i1, i2, i3⟩ := sumZ_bd h xs (plusI s (gz v x)) hb.1 hb.2
      refine ⟨i1, i2, i3.trans ⟨fun h y hy => ?_, fun h y hy => h y (List.mem_cons_of_mem _ hy)⟩⟩
      rcases List.mem_cons.1 hy with rfl | hy
      · omega
      · exact h y hy
theorem eInner {m : Nat} {v : List Int} (h : ZV m v) {R : Type} (F : Option R) (k : Int → Option R) : ∀ (xs : List Int) (i : Nat) (s : Int), (∀ x ∈ xs, 0 ≤ x ∧ x < (m : Int)) → 1 ≤ s → s ≤ 4611686018427387904 →
    rangeC (fun i13 x13 (s13 : Int) n13 => (idxM m v x13).bind fun v4 => if v4 = 0 then F else (empty_plus s13 v4).bind fun v5 => n13 v5) xs i s k = if 0 < sumZ v xs s then k (sumZ v xs s) else F
  | [], i, s, _, h1, h2 => by rw [rangeC, sumZ, if_pos (by omega)]
  | x :: xs, i, s, hx, h1, h2 => by
    have hxx := hx x (by simp)
    have hg := h.gz x
    rw [rangeC, h.idxM hxx.1 hxx.2, sumZ]
    simp only [Option.bind_some]
    by_cases c : gz v x = 0
    · rw [if_pos c, if_pos c, if_neg (by omega)]
    · rw [if_neg c, if_neg c, eplus_eq (by omega) h2 hg.1 hg.2]
      simp only [Option.bind_some]
      have hb := plusI_bd h1 hg.1
      exact eInner h F k xs (i + 1) _ (fun y hy => hx y (List.mem_cons_of_mem _ hy)) hb.1 hb.2
theorem rInner {m : Nat} {v : List Int} (h : ZV m v) {R : Type} (k : Int → Option R) : ∀ (xs : List Int) (i : Nat) (s : Int), (∀ x ∈ xs, 0 ≤ x ∧ x < (m : Int)) → 1 ≤ s → s ≤ 4611686018427387904 →
    rangeC (fun i13 x13 (s13 : Int) n13 => (idxM m v x13).bind fun v4 => if v4 = 0 then k 0 else (ref06_plus s13 v4).bind fun v5 => n13 v5) xs i s k = k (sumZ v xs s)
  | [], i, s, _, h1, h2 => by rw [rangeC, sumZ]
  | x :: xs, i, s, hx, h1, h2 => by
    have hxx := hx x (by simp)
    have hg := h.gz x
    rw [rangeC, h.idxM hxx.1 hxx.2, sumZ]
    simp only [Option.bind_some]
    by_cases c : gz v x = 0
    · rw [if_pos c, if_pos c]
    · rw [if_neg c, if_neg c, rplus_eq (by omega) h2 hg.1 hg.2]
      simp only [Option.bind_some]
      have hb := plusI_bd h1 hg.1
      exact rInner h k xs (i + 1) _ (fun y hy => hx y (List.mem_cons_of_mem _ hy)) hb.1 hb.2
def stepZ (s : Bool × List Int) (x : Rule) : Bool × List Int :=
  if 0 < sumZ s.2 x.From 1 then (if gz s.2 x.To = 0 then (true, s.2.set x.To.toNat (sumZ s.2 x.From 1)) else if sumZ s.2 x.From 1 < gz s.2 x.To then (true, s.2.set x.To.toNat (sumZ s.2 x.From 1)) else (s.1, s.2)) else (s.1, s.2)
def passZ (a : Automaton) (v : List Int) : Bool × List Int := a.Rules.foldl stepZ (false, v)
theorem ZV.set {m : Nat} {v : List Int} (h : ZV m v) (i : Nat) {s : Int} (h0 : 0 ≤ s) (h1 : s ≤ 4611686018427387904) : ZV m (v.set i s) :=
  ⟨by rw [List.length_set, h.len], fun x hx => by
    rcases List.mem_or_eq_of_mem_set hx with hx | rfl
    · exact h.bd x hx
    · exact ⟨h0, h1⟩⟩
theorem stepZ_ZV {m : Nat} {s : Bool × List Int} (h : ZV m s.2) (x : Rule) : ZV m (stepZ s x).2 := by
  have hb := sumZ_bd h x.From 1 (by omega) (by omega)
  unfold stepZ
  split
  · split
    · exact h.set _ hb.1 hb.2.1
    · split
      · exact h.set _ hb.1 hb.2.1
      · exact h
  · exact h
theorem foldZ_ZV {m : Nat} : ∀ (l : List Rule) (s : Bool × List Int), ZV m s.2 → ZV m (l.foldl stepZ s).2
  | [], _, h => h
  | x :: l, s, h => foldZ_ZV l _ (stepZ_ZV h x)
theorem passZ_ZV {m : Nat} {a : Automaton} {v : List Int} (h : ZV m v) : ZV m (passZ a v).2 := foldZ_ZV _ _ h
def mesV : List Int → Nat
  | [] => 0
  | x :: v => (if x = 0 then 4611686018427387905 else x.toNat) + mesV v
theorem mes_set : ∀ (v : List Int) (i : Nat) (x s : Int), v[i]? = some x → 1 ≤ s → s ≤ 4611686018427387904 → 0 ≤ x → (x = 0 ∨ s < x) → mesV (v.set i s) < mesV v
  | [], i, x, s, h, _, _, _, _ => by simp at h
  | y :: v, 0, x, s, h, h1, h2, h3, h4 => by
    have : y = x := by simpa using h
    subst this
    rw [List.set_cons_zero, mesV, mesV, if_neg (by omega)]
    split <;> omega
  | y :: v, i + 1, x, s, h, h1, h2, h3, h4 => by
    have := mes_set v i x s (by simpa using h) h1 h2 h3 h4
    rw [List.set_cons_succ, mesV, mesV]
    omega
theorem stepZ_mes {m : Nat} {s : Bool × List Int} (h : ZV m s.2) {x : Rule} (hx : 0 ≤ x.To ∧ x.To < (m : Int)) : stepZ s x = s ∨ ((stepZ s x).1 = true ∧ mesV (stepZ s x).2 < mesV s.2) := by
  have hb := sumZ_bd h x.From 1 (by omega) (by omega)
  have hg := h.gz x.To
  have he : s.2[x.To.toNat]? = some (gz s.2 x.To) := by
    unfold gz
    rw [List.getElem?_eq_getElem (by rw [h.len]; omega)]; rfl
  unfold stepZ
  by_cases c1 : 0 < sumZ s.2 x.From 1
  · rw [if_pos c1]
    by_cases c2 : gz s.2 x.To = 0
    · rw [if_pos c2]
      exact .inr ⟨rfl, mes_set _ _ _ _ he (by omega) hb.2.1 hg.1 (.inl c2)⟩
    · rw [if_neg c2]
      by_cases c3 : sumZ s.2 x.From 1 < gz s.2 x.To
      · rw [if_pos c3]
        exact .inr ⟨rfl, mes_set _ _ _ _ he (by omega) hb.2.1 hg.1 (.inr c3)⟩
      · rw [if_neg c3]; exact .inl rfl
  · rw [if_neg c1]; exact .inl rfl
theorem foldZ_mes {m : Nat} : ∀ (l : List Rule) (s : Bool × List Int), ZV m s.2 → (∀ x ∈ l, 0 ≤ x.To ∧ x.To < (m : Int)) → l.foldl stepZ s = s ∨ ((l.foldl stepZ s).1 = true ∧ mesV (l.foldl stepZ s).2 < mesV s.2)
  | [], s, _, _ => .inl rfl
  | x :: l, s, h, hx => by
    rw [List.foldl_cons]
    have ih := foldZ_mes l (stepZ s x) (stepZ_ZV h x) (fun y hy => hx y (List.mem_cons_of_mem _ hy))
    rcases stepZ_mes h (hx x (by simp)) with e | ⟨e1, e2⟩
    · rw [e] at ih ⊢; exact ih
    · rcases ih with e3 | ⟨e3, e4⟩
      · rw [e3]; exact .inr ⟨e1, e2⟩
      · exact .inr ⟨e3, by omega⟩
theorem passZ_mes {m : Nat} {a : Automaton} {v : List Int} (h : ZV m v) (hx : ∀ x ∈ a.Rules, 0 ≤ x.To ∧ x.To < (m : Int)) : passZ a v = (false, v) ∨ ((passZ a v).1 = true ∧ mesV (passZ a v).2 < mesV v) := foldZ_mes _ _ h hx
-- positivity
def posV (v : List Int) : List Bool := v.map fun x => decide (0 < x)
def gb (b : List Bool) (x : Int) : Bool := (b[x.toNat]?).getD false
theorem gb_pos (v : List Int) (x : Int) : gb (posV v) x = decide (0 < gz v x) := by
  unfold gb posV gz
  rw [List.getElem?_map]
  cases v[x.toNat]? with
  | none => rfl
  | some y => rfl
def bstep (b : List Bool) (x : Rule) : List Bool := if x.From.all (fun y => gb b y) = true then b.set x.To.toNat true else b
def bpass (a : Automaton) (b : List Bool) : List Bool := a.Rules.foldl bstep b
theorem pos_step {m : Nat} {s : Bool × List Int} (h : ZV m s.2) {x : Rule} (hx : 0 ≤ x.To ∧ x.To < (m : Int)) : posV (stepZ s x).2 = bstep (posV s.2) x := by
  have hb := sumZ_bd h x.From 1 (by omega) (by omega)
  have hg := h.gz x.To
  have hall : (x.From.all (fun y => gb (posV s.2) y) = true) ↔ 0 < sumZ s.2 x.From 1 := by
    rw [hb.2.2, List.all_eq_true]
    constructor
    · intro h y hy
      have := h y hy
      rw [gb_pos] at this
      exact of_decide_eq_true this
    · intro h y hy
      rw [gb_pos]
      exact decide_eq_true (h y hy)
  have hset : ∀ q : Int, 0 < q → posV (s.2.set x.To.toNat q) = (posV s.2).set x.To.toNat true := fun q hq => by
    unfold posV
    rw [List.map_set, decide_eq_true hq]
  unfold stepZ bstep
  by_cases c1 : 0 < sumZ s.2 x.From 1
  · rw [if_pos c1, if_pos (hall.2 c1)]
    by_cases c2 : gz s.2 x.To = 0
    · rw [if_pos c2]; exact hset _ c1
    · rw [if_neg c2]
      by_cases c3 : sumZ s.2 x.From 1 < gz s.2 x.To
      · rw [if_pos c3]; exact hset _ c1
      · rw [if_neg c3]
        simp only []
        rw [← hset (gz s.2 x.To) (by omega)]
        congr 1
        unfold gz
        have hlt : x.To.toNat < s.2.length := by rw [h.len]; omega
        rw [List.getElem?_eq_getElem hlt, Option.getD_some, List.set_getElem_self]
  · rw [if_neg c1, if_neg (fun h => c1 (hall.1 h))]
theorem pos_fold {m : Nat} : ∀ (l : List Rule) (s : Bool × List Int), ZV m s.2 → (∀ x ∈ l, 0 ≤ x.To ∧ x.To < (m : Int)) → posV (l.foldl stepZ s).2 = l.foldl bstep (posV s.2)
  | [], _, _, _ => rfl
  | x :: l, s, h, hx => by
    rw [List.foldl_cons, List.foldl_cons, ← pos_step h (hx x (by simp))]
    exact pos_fold l _ (stepZ_ZV h x) (fun y hy => hx y (List.mem_cons_of_mem _ hy))
theorem pos_pass {m : Nat} {a : Automaton} {v : List Int} (h : ZV m v) (hx : ∀ x ∈ a.Rules, 0 ≤ x.To ∧ x.To < (m : Int)) : posV (passZ a v).2 = bpass a (posV v) := pos_fold _ _ h hx
def cntB : List Bool → Nat
  | [] => 0
  | x :: b => (if x = true then 1 else 0) + cntB b
theorem cnt_le : ∀ b, cntB b ≤ b.length
  | [] => by rw [cntB]; exact Nat.zero_le _
  | x :: b => by rw [cntB, List.length_cons]; have := cnt_le b; split <;> omega
theorem cnt_set : ∀ (b : List Bool) (i : Nat), b.set i true = b ∨ cntB b < cntB (b.set i true)
  | [], i => .inl rfl
  | x :: b, 0 => by
    rw [List.set_cons_zero, cntB, cntB]
    cases x with
    | true => exact .inl rfl
    | false => exact .inr (by simp)
  | x :: b, i + 1 => by
    rw [List.set_cons_succ, cntB, cntB]
    rcases cnt_set b i with e | e
    · rw [e]; exact .inl rfl
    · exact .inr (by omega)
theorem cnt_step (b : List Bool) (x : Rule) : bstep b x = b ∨ cntB b < cntB (bstep b x) := by
  unfold bstep
  split
  · exact cnt_set _ _
  · exact .inl rfl
theorem cnt_fold : ∀ (l : List Rule) (b : List Bool), l.foldl bstep b = b ∨ cntB b < cntB (l.foldl bstep b)
  | [], _ => .inl rfl
  | x :: l, b => by
    rw [List.foldl_cons]
    rcases cnt_step b x with e | e
    · rw [e]; exact cnt_fold l b
    · rcases cnt_fold l (bstep b x) with e2 | e2
      · rw [e2]; exact .inr e
      · exact .inr (by omega)
theorem cnt_pass (a : Automaton) (b : List Bool) : bpass a b = b ∨ cntB b < cntB (bpass a b) := cnt_fold _ _
def bit (a : Automaton) : Nat → List Bool → List Bool
  | 0, b => b
  | j + 1, b => bit a j (bpass a b)
theorem bit_add (a : Automaton) : ∀ (j k : Nat) (b : List Bool), bit a (j + k) b = bit a k (bit a j b)
  | 0, k, b => by rw [Nat.zero_add, bit]
  | j + 1, k, b => by rw [Nat.add_right_comm, bit, bit, bit_add a j k]
theorem bit_stab (a : Automaton) {b : List Bool} (h : bpass a b = b) : ∀ k, bit a k b = b
  | 0 => rfl
  | k + 1 => by rw [bit, h]; exact bit_stab a h k
theorem stab_eq {a : Automaton} {b : List Bool} {j k : Nat} (hj : bpass a (bit a j b) = bit a j b) (hk : bpass a (bit a k b) = bit a k b) : bit a j b = bit a k b := by
  have h1 := bit_add a j k b
  have h2 := bit_add a k j b
  rw [bit_stab a hj] at h1
  rw [bit_stab a hk] at h2
  rw [← h1, ← h2, Nat.add_comm]
def iterE (a : Automaton) : Nat → List Int → List Int
  | 0, v => v
  | j + 1, v => if (passZ a v).1 = true then iterE a j (passZ a v).2 else (passZ a v).2
theorem iterE_ZV {m : Nat} {a : Automaton} : ∀ (j : Nat) (v : List Int), ZV m v → ZV m (iterE a j v)
  | 0, _, h => h
  | j + 1, v, h => by
    rw [iterE]
    split
    · exact iterE_ZV j _ (passZ_ZV h)
    · exact passZ_ZV h
theorem iterE_pos {m : Nat} {a : Automaton} (hx : ∀ x ∈ a.Rules, 0 ≤ x.To ∧ x.To < (m : Int)) : ∀ (j : Nat) (v : List Int), ZV m v → ∃ k, posV (iterE a j v) = bit a k (posV v) ∧ (bpass a (posV (iterE a j v)) = posV (iterE a j v) ∨ cntB (posV v) + j ≤ cntB (posV (iterE a j v)))
  | 0, v, h => ⟨0, rfl, .inr (Nat.le_refl _)⟩
  | j + 1, v, h => by
    have hp := pos_pass h hx
    rw [iterE]
    by_cases c : (passZ a v).1 = true
    · rw [if_pos c]
      obtain ⟨k, e1, e2⟩ := iterE_pos hx j _ (passZ_ZV (a := a) h)
      rw [hp] at e1 e2
      refine ⟨k + 1, e1, ?_⟩
      rcases e2 with e2 | e2
      · exact .inl e2
      · rcases cnt_pass a (posV v) with e3 | e3
        · left
          rw [e3, bit_stab a e3] at e1
          rw [e1, e3]
        · exact .inr (by omega)
    · rw [if_neg c]
      rcases passZ_mes h hx with e | ⟨e, _⟩
      · rw [e] at hp ⊢
        exact ⟨0, rfl, .inl hp.symm⟩
      · exact absurd e c
theorem iterE_stab {m : Nat} {a : Automaton} (hx : ∀ x ∈ a.Rules, 0 ≤ x.To ∧ x.To < (m : Int)) {v : List Int} (h : ZV m v) : ∃ k, posV (iterE a m v) = bit a k (posV v) ∧ bpass a (posV (iterE a m v)) = posV (iterE a m v) := by
  obtain ⟨k, e1, e2⟩ := iterE_pos hx m v h
  refine ⟨k, e1, ?_⟩
  rcases e2 with e2 | e2
  · exact e2
  · rcases cnt_pass a (posV (iterE a m v)) with e3 | e3
    · exact e3
    · exfalso
      have h1 := cnt_le (bpass a (posV (iterE a m v)))
      have h2 : (bpass a (posV (iterE a m v))).length = m := by
        rw [← pos_pass (iterE_ZV m v h) hx]
        unfold posV
        rw [List.length_map, (passZ_ZV (iterE_ZV m v h)).len]
      omega
theorem zero_ZV (m : Nat) : ZV m (List.replicate m 0) := ⟨List.length_replicate .., fun x hx => by rw [List.eq_of_mem_replicate hx]; omega⟩
theorem eRules {a : Automaton} (ha : OKa a) {R : Type} (s : Bool × List Int) (h : ZV a.States.toNat s.2) (k : Bool × List Int → Option R) :
    rangeL a.Rules s (fun k12 i12 x12 (s12 : Bool × (List Int)) n12 =>
      rangeL x12.From 1 (fun k13 i13 x13 (s13 : Int) n13 =>
        (idxM ((a.States).toNat) s12.2 x13).bind fun v4 =>
        if v4 = 0 then
          n12 (s12.1, s12.2)
        else
          (empty_plus s13 v4).bind fun v5 =>
          n13 v5) fun s13 =>
      (idxM ((a.States).toNat) s12.2 x12.To).bind fun v3 =>
      if v3 = 0 then
        n12 (true, (List.set s12.2 ((x12.To).toNat) s13))
      else
        if s13 < v3 then
          n12 (true, (List.set s12.2 ((x12.To).toNat) s13))
        else
          n12 (s12.1, s12.2)) k = k (a.Rules.foldl stepZ s) := by
  have hst := ha.st
  have hrl := ha.rul
  rw [rangeL, if_pos (by omega)]
  refine (foldC (step := stepZ) (fun s => ZV a.States.toNat s.2) a.Rules 0 s k h ?_ (fun x s _ h => stepZ_ZV h x)).1
  intro j x s n1 hx hs
  have hf := ha.frm x hx
  have hff := ha.from' x hx
  have hto := ha.to x hx
  rw [rangeL, if_pos (by omega), eInner hs _ _ x.From 0 1 (fun y hy => by have := hff y hy; omega) (by omega) (by omega)]
  unfold stepZ
  by_cases c1 : 0 < sumZ s.2 x.From 1
  · rw [if_pos c1, if_pos c1, hs.idxM hto.1 (by omega)]
    simp only [Option.bind_some]
    by_cases c2 : gz s.2 x.To = 0
    · rw [if_pos c2, if_pos c2]
    · rw [if_neg c2, if_neg c2]
      split <;> rfl
  · rw [if_neg c1, if_neg c1]
theorem rRules {a : Automaton} (ha : OKa a) {R : Type} (s : Bool × List Int) (h : ZV a.States.toNat s.2) (k : Bool × List Int → Option R) :
    rangeL a.Rules s (fun k12 i12 x12 (s12 : Bool × (List Int)) n12 =>
        rangeL x12.From 1 (fun k13 i13 x13 (s13 : Int) n13 =>
          (idxM ((a.States).toNat) s12.2 x13).bind fun v4 =>
          if v4 = 0 then
            k13 0
          else
            (ref06_plus s13 v4).bind fun v5 =>
            n13 v5) fun s13 =>
        if 0 < s13 then
          (idxM ((a.States).toNat) s12.2 x12.To).bind fun v3 =>
          if v3 = 0 then
            n12 (true, (List.set s12.2 ((x12.To).toNat) s13))
          else
            if s13 < v3 then
              n12 (true, (List.set s12.2 ((x12.To).toNat) s13))
            else
              n12 (s12.1, s12.2)
        else
          n12 (s12.1, s12.2)) k = k (a.Rules.foldl stepZ s) := by
  have hst := ha.st
  have hrl := ha.rul
  rw [rangeL, if_pos (by omega)]
  refine (foldC (step := stepZ) (fun s => ZV a.States.toNat s.2) a.Rules 0 s k h ?_ (fun x s _ h => stepZ_ZV h x)).1
  intro j x s n1 hx hs
  have hf := ha.frm x hx
  have hff := ha.from' x hx
  have hto := ha.to x hx
  rw [rangeL, if_pos (by omega)]
  refine (rInner hs (fun s13 =>
        if 0 < s13 then
          (idxM ((a.States).toNat) s.2 x.To).bind fun v3 =>
          if v3 = 0 then
            n1 (true, (List.set s.2 ((x.To).toNat) s13))
          else
            if s13 < v3 then
              n1 (true, (List.set s.2 ((x.To).toNat) s13))
            else
              n1 (s.1, s.2)
        else
          n1 (s.1, s.2)) x.From 0 1 (fun y hy => by have := hff y hy; omega) (by omega) (by omega)).trans ?_
  unfold stepZ
  by_cases c1 : 0 < sumZ s.2 x.From 1
  · rw [if_pos c1, if_pos c1, hs.idxM hto.1 (by omega)]
    simp only [Option.bind_some]
    by_cases c2 : gz s.2 x.To = 0
    · rw [if_pos c2, if_pos c2]
    · rw [if_neg c2, if_neg c2]
      split <;> rfl
  · rw [if_neg c1, if_neg c1]
theorem mk8_eq {a : Automaton} (ha : OKa a) : mkz 8 a.States a.States (0 : Int) = some (List.replicate a.States.toNat 0) := by
  have hst := ha.st
  unfold mkz; rw [if_pos (by omega)]
theorem tkM_eq {m : Nat} {α : Type} {v : List α} (h : v.length = m) : tkM m v = some v := by
  unfold tkM
  rw [if_pos (by rw [h]; exact Nat.le_refl _), List.take_of_length_le (by rw [h]; exact Nat.le_refl _)]
theorem esizes_eq {a : Automaton} (ha : OKa a) : empty_sizes a = some (iterE a a.States.toNat (List.replicate a.States.toNat 0)) := by
  have hst := ha.st
  unfold empty_sizes
  rw [mk8_eq ha, Option.bind_some, rangeI, if_pos (by omega)]
  suffices H : ∀ (j i : Nat) (v : List Int) (k : List Int → Option (List Int)), ZV a.States.toNat v → rangeC (fun i9 (_ : Unit) (s9 : (List Int)) n9 =>
    rangeL a.Rules (false, s9) (fun k12 i12 x12 (s12 : Bool × (List Int)) n12 =>
      rangeL x12.From 1 (fun k13 i13 x13 (s13 : Int) n13 =>
        (idxM ((a.States).toNat) s12.2 x13).bind fun v4 =>
        if v4 = 0 then
          n12 (s12.1, s12.2)
        else
          (empty_plus s13 v4).bind fun v5 =>
          n13 v5) fun s13 =>
      (idxM ((a.States).toNat) s12.2 x12.To).bind fun v3 =>
      if v3 = 0 then
        n12 (true, (List.set s12.2 ((x12.To).toNat) s13))
      else
        if s13 < v3 then
          n12 (true, (List.set s12.2 ((x12.To).toNat) s13))
        else
          n12 (s12.1, s12.2)) fun s12 =>
    if s12.1 = true then
      n9 s12.2
    else
      k s12.2) (List.replicate j ()) i v k = k (iterE a j v) by
    refine (H a.States.toNat 0 _ (fun s9 => (tkM ((a.States).toNat) s9).bind fun v2 => some v2) (zero_ZV _)).trans ?_
    rw [tkM_eq (iterE_ZV _ _ (zero_ZV _)).len]; rfl
  intro j
  induction j with
  | zero => intro i v k h; rw [List.replicate_zero, rangeC, iterE]
  | succ j ih =>
    intro i v k h
    rw [List.replicate_succ, rangeC, eRules ha (false, v) h]
    rw [iterE]
    show (if (passZ a v).1 = true then _ else _) = _
    by_cases c : (passZ a v).1 = true
    · rw [if_pos c, if_pos c]
      exact ih (i + 1) _ k (passZ_ZV h)
    · rw [if_neg c, if_neg c]; rfl
theorem smallest_eq {a : Automaton} (ha : OKa a) : ∃ n0 S, (∀ n, n0 ≤ n → ref06_Smallest n a = some S) ∧ ZV a.States.toNat S ∧ ∃ k, posV S = bit a k (posV (List.replicate a.States.toNat 0)) ∧ bpass a (posV S) = posV S := by
  have hst := ha.st
  have hx : ∀ x ∈ a.Rules, 0 ≤ x.To ∧ x.To < (a.States.toNat : Int) := fun x h => by have := ha.to x h; omega
  suffices H : ∀ (M : Nat) (v : List Int), ZV a.States.toNat v → mesV v ≤ M → ∃ S, (∀ n, M + 2 ≤ n → ∀ k : Bool × List Int → Option (List Int), whileC (fun (s9 : Bool × (List Int)) n9 =>
    if s9.1 = true then
      rangeL a.Rules (false, s9.2) (fun k12 i12 x12 (s12 : Bool × (List Int)) n12 =>
        rangeL x12.From 1 (fun k13 i13 x13 (s13 : Int) n13 =>
          (idxM ((a.States).toNat) s12.2 x13).bind fun v4 =>
          if v4 = 0 then
            k13 0
          else
            (ref06_plus s13 v4).bind fun v5 =>
            n13 v5) fun s13 =>
        if 0 < s13 then
          (idxM ((a.States).toNat) s12.2 x12.To).bind fun v3 =>
          if v3 = 0 then
            n12 (true, (List.set s12.2 ((x12.To).toNat) s13))
          else
            if s13 < v3 then
              n12 (true, (List.set s12.2 ((x12.To).toNat) s13))
            else
              n12 (s12.1, s12.2)
        else
          n12 (s12.1, s12.2)) fun s12 =>
      n9 (s12.1, s12.2)
    else
      k (false, s9.2)) n (true, v) = k (false, S)) ∧ ZV a.States.toNat S ∧ ∃ k, posV S = bit a k (posV v) ∧ bpass a (posV S) = posV S by
    obtain ⟨S, e1, e2, e3⟩ := H _ _ (zero_ZV a.States.toNat) (Nat.le_refl _)
    refine ⟨mesV (List.replicate a.States.toNat 0) + 2, S, fun n hn => ?_, e2, e3⟩
    unfold ref06_Smallest
    rw [mk8_eq ha, Option.bind_some, whileL]
    refine (e1 n hn (fun s9 => (tkM ((a.States).toNat) s9.2).bind fun v2 => some v2)).trans ?_
    simp only []
    rw [tkM_eq e2.len]; rfl
  intro M
  induction M with
  | zero =>
    intro v h hm
    have hp := pos_pass h hx
    rcases passZ_mes h hx with e | ⟨_, e⟩
    · refine ⟨v, fun n hn k => ?_, h, 0, rfl, by rw [e] at hp; exact hp.symm⟩
      obtain ⟨n, rfl⟩ : ∃ q, n = q + 2 := ⟨n - 2, by omega⟩
      rw [whileC, if_pos rfl, rRules ha (false, v) h]
      show whileC _ (n + 1) ((passZ a v).1, (passZ a v).2) = _
      rw [e, whileC, if_neg (by simp)]
    · omega
  | succ M ih =>
    intro v h hm
    have hp := pos_pass h hx
    rcases passZ_mes h hx with e | ⟨e0, e⟩
    · refine ⟨v, fun n hn k => ?_, h, 0, rfl, by rw [e] at hp; exact hp.symm⟩
      obtain ⟨n, rfl⟩ : ∃ q, n = q + 2 := ⟨n - 2, by omega⟩
      rw [whileC, if_pos rfl, rRules ha (false, v) h]
      show whileC _ (n + 1) ((passZ a v).1, (passZ a v).2) = _
      rw [e, whileC, if_neg (by simp)]
    · obtain ⟨S, e1, e2, k0, e3, e4⟩ := ih (passZ a v).2 (passZ_ZV h) (by omega)
      refine ⟨S, fun n hn k => ?_, e2, k0 + 1, by rw [e3, hp, bit], e4⟩
      obtain ⟨n, rfl⟩ : ∃ q, n = q + 1 := ⟨n - 1, by omega⟩
      rw [whileC, if_pos rfl, rRules ha (false, v) h]
      show whileC _ n ((passZ a v).1, (passZ a v).2) = _
      rw [e0]
      exact e1 n (by omega) k
theorem sizes_same {a : Automaton} (ha : OKa a) : ∃ n0 E S, empty_sizes a = some E ∧ (∀ n, n0 ≤ n → ref06_Smallest n a = some S) ∧ E.length = a.States.toNat ∧ S.length = a.States.toNat ∧ posV E = posV S := by
  have hx : ∀ x ∈ a.Rules, 0 ≤ x.To ∧ x.To < (a.States.toNat : Int) := fun x h => by have := ha.to x h; omega
  obtain ⟨n0, S, e1, e2, k, e3, e4⟩ := smallest_eq ha
  obtain ⟨j, f1, f2⟩ := iterE_stab hx (zero_ZV a.States.toNat)
  refine ⟨n0, _, S, esizes_eq ha, e1, (iterE_ZV _ _ (zero_ZV _)).len, e2.len, ?_⟩
  rw [f1, e3]
  rw [f1] at f2
  rw [e3] at e4
  exact stab_eq f2 e4
end Go.AM.S22

namespace Go.AM.S22
open Go Go.Proofs Go.AM
set_option linter.unusedVariables false
set_option maxRecDepth 100000
def zh : ref22_cut := ⟨false, 0, []⟩
def addP (i : Nat) (l : List (List Int)) : List (List Int) := l.map fun p => (i : Int) :: p
theorem pre_eq {R : Type} (i : Nat) (k : List (List Int) → Option R) : ∀ (l : List (List Int)) (p : Nat) (s : List (List Int)), (∀ x ∈ l, x.length ≤ 1000) → s.length + l.length ≤ 1000 →
    rangeC (fun (_ : Nat) x4 (s4 : (List (List Int))) n4 => (app 8 [(i : Int)] x4).bind fun v3 => (app 24 s4 [v3]).bind fun v4 => n4 v4) l p s k = k (s ++ addP i l)
  | [], p, s, _, _ => by rw [rangeC]; unfold addP; rw [List.map_nil, List.append_nil]
  | x :: l, p, s, hx, hs => by
    have h1 := hx x (by simp)
    rw [List.length_cons] at hs
    rw [rangeC, app_ok (by simp only [List.length_cons, List.length_nil]; omega)]
    simp only [Option.bind_some]
    rw [app_ok (by simp only [List.length_cons, List.length_nil]; omega)]
    simp only [Option.bind_some]
    rw [pre_eq i k l (p + 1) _ (fun y hy => hx y (List.mem_cons_of_mem _ hy)) (by simp only [List.length_append, List.length_cons, List.length_nil]; omega)]
    unfold addP
    simp
def hf : Nat → List (List ref22_cut) → List Int → Bool × Int × List (List Int) → Bool × Int × List (List Int)
  | i, k :: ks, x :: xs, s => hf (i + 1) ks xs (s.1 && ((k[x.toNat]?).getD zh).some, s.2.1 + ((k[x.toNat]?).getD zh).nodes, s.2.2 ++ addP i ((k[x.toNat]?).getD zh).l)
  | _, _, _, s => s
def mkH (s : Bool × Int × List (List Int)) : ref22_cut := ⟨true, s.2.1, s.2.2⟩
def stepH (kids : List (List ref22_cut)) (sym : Int) (row : List ref22_cut) (x : Rule) : List ref22_cut :=
  if x.Sym = sym then
    (if (hf 0 kids x.From (true, 0, [])).1 = true then
      (if cutB (mkH (hf 0 kids x.From (true, 0, []))) ((row[x.To.toNat]?).getD zh) = true then row.set x.To.toNat (mkH (hf 0 kids x.From (true, 0, []))) else row)
    else row)
  else row
def iniH (zs : List Bool) (n : Nat) : List ref22_cut := zs.map fun b => if b = true then ⟨true, (n : Int), [[]]⟩ else zh
def rowH (a : Automaton) (zs : List Bool) (n : Nat) (sym : Int) (kids : List (List ref22_cut)) : List ref22_cut := a.Rules.foldl (stepH kids sym) (iniH zs n)
mutual
def cuT (a : Automaton) (zs : List Bool) : Tree → List ref22_cut
  | .mk s k => rowH a zs (tsT (.mk s k)) s (cuL a zs k)
def cuL (a : Automaton) (zs : List Bool) : List Tree → List (List ref22_cut)
  | [] => []
  | x :: r => cuT a zs x :: cuL a zs r
end
theorem cuT_eq (a : Automaton) (zs : List Bool) (t : Tree) : cuT a zs t = rowH a zs (tsT t) t.Sym (cuL a zs t.Kids) := by cases t; rw [cuT]
theorem cuL_len (a : Automaton) (zs : List Bool) : ∀ l, (cuL a zs l).length = l.length
  | [] => by rw [cuL]; rfl
  | x :: r => by rw [cuL, List.length_cons, List.length_cons, cuL_len a zs r]
theorem cuL_get (a : Automaton) (zs : List Bool) : ∀ (l : List Tree) (i : Nat) (t : Tree), l[i]? = some t → (cuL a zs l)[i]? = some (cuT a zs t)
  | [], i, t, h => by simp at h
  | x :: r, 0, t, h => by rw [cuL]; simp at h ⊢; rw [h]
  | x :: r, i + 1, t, h => by rw [cuL]; simp at h ⊢; exact cuL_get a zs r i t h
structure HC (t : Tree) (c : ref22_cut) : Prop where
  no : c.some = false → c = zh
  n0 : 0 ≤ c.nodes
  n1 : c.nodes ≤ tsT t
  ll : c.l.length ≤ tsT t
  pl : ∀ p ∈ c.l, p.length ≤ tdT t
theorem HC.zh (t : Tree) : HC t zh := ⟨fun _ => rfl, Int.le_refl _, Int.natCast_nonneg _, Nat.zero_le _, fun p h => by cases h⟩
def HR (m : Nat) (t : Tree) (row : List ref22_cut) : Prop := row.length = m ∧ ∀ c ∈ row, HC t c
def HK (m : Nat) : List (List ref22_cut) → List Tree → Prop
  | [], [] => True
  | r :: rs, t :: ts => HR m t r ∧ HK m rs ts
  | _, _ => False
theorem HR.get {m : Nat} {t : Tree} {row : List ref22_cut} (h : HR m t row) (i : Nat) : HC t ((row[i]?).getD S22.zh) := by
  cases e : row[i]? with
  | none => exact HC.zh t
  | some c => exact h.2 c (List.mem_of_getElem? e)
theorem HK.len {m : Nat} : ∀ {ks : List (List ref22_cut)} {kl : List Tree}, HK m ks kl → ks.length = kl.length
  | [], [], _ => rfl
  | _ :: _, _ :: _, h => by rw [List.length_cons, List.length_cons, HK.len h.2]
  | [], _ :: _, h => h.elim
  | _ :: _, [], h => h.elim
theorem hf_false : ∀ (ks : List (List ref22_cut)) (xs : List Int) (i : Nat) (s : Bool × Int × List (List Int)), s.1 = false → (hf i ks xs s).1 = false
  | [], _, i, s, h => by rw [hf]; exact h; exact fun _ _ _ _ h => by cases h
  | _ :: _, [], i, s, h => by rw [hf]; exact h; exact fun _ _ _ _ _ h => by cases h
  | k :: ks, x :: xs, i, s, h => by rw [hf]; exact hf_false ks xs _ _ (by rw [h]; rfl)
theorem hf_bd {m : Nat} : ∀ (ks : List (List ref22_cut)) (kl : List Tree) (xs : List Int) (i : Nat) (s : Bool × Int × List (List Int)), HK m ks kl → s.2.1 ≤ (hf i ks xs s).2.1 ∧ (hf i ks xs s).2.1 ≤ s.2.1 + tsL kl ∧ (hf i ks xs s).2.2.length ≤ s.2.2.length + tsL kl ∧ ∀ p ∈ (hf i ks xs s).2.2, p ∈ s.2.2 ∨ p.length ≤ tdL kl
  | [], [], xs, i, s, h => by
    have : hf i [] xs s = s := by rw [hf]; exact fun _ _ _ _ h => by cases h
    rw [this, tsL]; exact ⟨by omega, by omega, by omega, fun p h => .inl h⟩
  | _ :: _, [], _, _, _, h => h.elim
  | [], _ :: _, _, _, _, h => h.elim
  | k :: ks, t :: kl, [], i, s, h => by
    have : hf i (k :: ks) [] s = s := by rw [hf]; exact fun _ _ _ _ _ h => by cases h
    rw [this]; exact ⟨by omega, by omega, by omega, fun p h => .inl h⟩
  | k :: ks, t :: kl, x :: xs, i, s, h => by
    have hc := h.1.get x.toNat
    have ih := hf_bd ks kl xs (i + 1) (s.1 && ((k[x.toNat]?).getD zh).some, s.2.1 + ((k[x.toNat]?).getD zh).nodes, s.2.2 ++ addP i ((k[x.toNat]?).getD zh).l) h.2
    obtain ⟨h0, h1, h2, h3⟩ := ih
    have c0 := hc.n0; have c1 := hc.n1; have c2 := hc.ll; have c3 := hc.pl
    have hl : (addP i ((k[x.toNat]?).getD zh).l).length = ((k[x.toNat]?).getD zh).l.length := by unfold addP; rw [List.length_map]
    simp only [List.length_append, hl] at h0 h1 h2 h3
    rw [hf, tsL, tdL]
    refine ⟨by omega, by omega, by omega, fun p hp => ?_⟩
    rcases h3 p hp with h | h
    · rcases List.mem_append.1 h with h | h
      · exact .inl h
      · obtain ⟨q, hq, rfl⟩ := List.mem_map.1 h
        have := c3 q hq
        right
        rw [List.length_cons]; omega
    · right; omega
theorem iniH_HR {m : Nat} {zs : List Bool} (h : zs.length = m) (t : Tree) : HR m t (iniH zs (tsT t)) := by
  refine ⟨by unfold iniH; rw [List.length_map, h], fun c hc => ?_⟩
  obtain ⟨b, _, rfl⟩ := List.mem_map.1 hc
  have := tsT_eq t
  split
  · exact ⟨fun h => by (cases h), Int.natCast_nonneg _, Int.le_refl _, by simp only [List.length_cons, List.length_nil]; omega, fun p hp => by
      rw [List.mem_singleton] at hp; subst hp; exact Nat.zero_le _⟩
  · exact HC.zh t
theorem step_HR {m : Nat} {t : Tree} {ks : List (List ref22_cut)} (hk : HK m ks t.Kids) {row : List ref22_cut} (h : HR m t row) (x : Rule) : HR m t (stepH ks t.Sym row x) := by
  unfold stepH
  split
  · split
    · split
      · refine ⟨by rw [List.length_set]; exact h.1, fun c hc => ?_⟩
        rcases List.mem_or_eq_of_mem_set hc with hc | rfl
        · exact h.2 c hc
        · obtain ⟨q1, q2, q3, q4⟩ := hf_bd ks t.Kids x.From 0 (true, 0, []) hk
          have e1 := tsT_eq t
          have e2 := tdT_eq t
          simp only [List.length_nil] at q1 q2 q3
          unfold mkH
          refine ⟨fun h => by (cases h), q1, by simp only []; omega, by simp only []; omega, fun p hp => ?_⟩
          rcases q4 p hp with h | h
          · cases h
          · omega
      · exact h
    · exact h
  · exact h
theorem row_HR {m : Nat} {a : Automaton} {zs : List Bool} (hz : zs.length = m) {t : Tree} {ks : List (List ref22_cut)} (hk : HK m ks t.Kids) : HR m t (rowH a zs (tsT t) t.Sym ks) := by
  unfold rowH
  have : ∀ (l : List Rule) (row : List ref22_cut), HR m t row → HR m t (l.foldl (stepH ks t.Sym) row) := by
    intro l
    induction l with
    | nil => intro row h; exact h
    | cons x l ih => intro row h; exact ih _ (step_HR hk h x)
  exact this _ _ (iniH_HR hz t)
mutual
theorem cuT_HR {m : Nat} (a : Automaton) {zs : List Bool} (hz : zs.length = m) : ∀ t : Tree, HR m t (cuT a zs t)
  | .mk s k => by rw [cuT]; exact row_HR hz (t := .mk s k) (cuL_HK a hz k)
theorem cuL_HK {m : Nat} (a : Automaton) {zs : List Bool} (hz : zs.length = m) : ∀ l : List Tree, HK m (cuL a zs l) l
  | [] => by rw [cuL]; trivial
  | x :: r => by rw [cuL]; exact ⟨cuT_HR a hz x, cuL_HK a hz r⟩
end
def Fit (r : List Int) (a : Automaton) : Prop := ∀ x ∈ a.Rules, (x.From.length : Int) = rk r x.Sym
theorem shL_mem {r : List Int} : ∀ {l : List Tree}, shL r l = true → ∀ x ∈ l, shT r x = true
  | [], _, x, h => by cases h
  | y :: l, h, x, hx => by
    rw [shL, Bool.and_eq_true] at h
    rcases List.mem_cons.1 hx with rfl | hx
    · exact h.1
    · exact shL_mem h.2 x hx
theorem sh_out {r : List Int} {t : Tree} (h : shT r t = true) : (t.Kids.length : Int) = rk r t.Sym ∧ shL r t.Kids = true := by
  rw [shT_eq, Bool.and_eq_true, decide_eq_true_eq] at h
  exact ⟨h.1.2.2, h.2⟩
theorem sml_of {t : Tree} {c : ref22_cut} (h : HC t c) (h1 : tsT t ≤ 80) : SmL c.l := ⟨by have := h.ll; omega, fun p hp => by have := h.pl p hp; have := td_le t; omega⟩
theorem sml_hf {m : Nat} {t : Tree} {ks : List (List ref22_cut)} (hk : HK m ks t.Kids) (h1 : tsT t ≤ 80) (xs : List Int) : SmL (hf 0 ks xs (true, 0, [])).2.2 := by
  obtain ⟨q1, q2, q3, q4⟩ := hf_bd ks t.Kids xs 0 (true, 0, []) hk
  have e1 := tsT_eq t
  have e2 := tdT_eq t
  have e3 := td_le t
  simp only [List.length_nil] at q3
  refine ⟨by omega, fun p hp => ?_⟩
  rcases q4 p hp with h | h
  · cases h
  · omega
theorem href_inner {m : Nat} {R : Type} (rows : List (List ref22_cut)) : ∀ (ks : List (List ref22_cut)) (kl : List Tree) (xs : List Int) (p : Nat) (s : Bool × Int × List (List Int)) (k : Bool × Int × List (List Int) → Option R), HK m ks kl → (∀ i, ks[i]? = rows[p + i]?) → xs.length = ks.length → (∀ x ∈ xs, 0 ≤ x ∧ x < (m : Int)) →
    0 ≤ s.2.1 → s.2.1 + tsL kl ≤ 1000 → s.2.2.length + tsL kl ≤ 1000 → tdL kl ≤ 1000 →
    rangeC (fun i19 (x19 : Int) (s19 : Bool × Int × (List (List Int))) n19 =>
          (rows[i19]?).bind fun v5 =>
          (idx v5 x19).bind fun v6 =>
          if s19.1 = true then
            rangeL v6.l s19.2.2 (fun k20 i20 x20 (s20 : (List (List Int))) n20 =>
              (app 8 [(i19 : Int)] x20).bind fun v7 =>
              (app 24 s20 [v7]).bind fun v8 =>
              n20 v8) fun s20 =>
            n19 (v6.some, w64 (s19.2.1 + v6.nodes), s20)
          else
            rangeL v6.l s19.2.2 (fun k21 i21 x21 (s21 : (List (List Int))) n21 =>
              (app 8 [(i19 : Int)] x21).bind fun v9 =>
              (app 24 s21 [v9]).bind fun v10 =>
              n21 v10) fun s21 =>
            n19 (false, w64 (s19.2.1 + v6.nodes), s21)) xs p s k = k (hf p ks xs s)
  | [], [], [], p, s, k, _, _, _, _, _, _, _, _ => by
    have : hf p [] [] s = s := by rw [hf]; exact fun _ _ _ _ h => by cases h
    rw [rangeC, this]
  | _ :: _, [], _, _, _, _, h, _, _, _, _, _, _, _ => h.elim
  | [], _ :: _, _, _, _, _, h, _, _, _, _, _, _, _ => h.elim
  | [], [], _ :: _, _, _, _, _, _, h, _, _, _, _, _ => by simp at h
  | _ :: _, _ :: _, [], _, _, _, _, _, h, _, _, _, _, _ => by simp at h
  | r :: ks, t :: kl, x :: xs, p, s, k, hg, hr, hl, hx, h0, h1, h2, h3 => by
    have hp := hr 0
    simp only [List.getElem?_cons_zero, Nat.add_zero] at hp
    have hxx := hx x (by simp)
    have hc := hg.1.get x.toNat
    have c0 := hc.n0; have c1 := hc.n1; have c2 := hc.ll; have c3 := hc.pl
    rw [tsL] at h1 h2
    rw [tdL] at h3
    rw [rangeC, ← hp]
    simp only [Option.bind_some]
    rw [idx_get (z := zh) hg.1.1 hxx.1 hxx.2]
    simp only [Option.bind_some]
    have hpl : ∀ q ∈ ((r[x.toNat]?).getD zh).l, q.length ≤ 1000 := fun q hq => by have := c3 q hq; omega
    have hl2 : (addP p ((r[x.toNat]?).getD zh).l).length = ((r[x.toNat]?).getD zh).l.length := by unfold addP; rw [List.length_map]
    rw [w64_eq (by omega) (by omega)]
    have ih := fun b => href_inner rows ks kl xs (p + 1) (b, s.2.1 + ((r[x.toNat]?).getD zh).nodes, s.2.2 ++ addP p ((r[x.toNat]?).getD zh).l) k hg.2 (fun i => by have := hr (i + 1); rwa [List.getElem?_cons_succ, show p + (i + 1) = p + 1 + i by omega] at this) (by simpa using hl) (fun y hy => hx y (List.mem_cons_of_mem _ hy)) (by simp only; omega) (by simp only; omega) (by simp only [List.length_append, hl2]; omega) (by omega)
    rw [hf]
    by_cases e : s.1 = true
    · rw [if_pos e, rangeL, if_pos (by omega), pre_eq p _ _ 0 _ hpl (by omega), ih, e, Bool.true_and]
    · rw [if_neg e, rangeL, if_pos (by omega), pre_eq p _ _ 0 _ hpl (by omega), ih, eq_false_of_ne_true e, Bool.false_and]
theorem iniG {R β : Type} {f : Int → β} {z0 : β} {m : Nat} {z : List Int} (hz : z.length = m) {body : Nat → Unit → List β → (List β → Option R) → Option R} (hb : ∀ i s n1 v, z[i]? = some v → s.length = m → s[i]? = some z0 → body i () s n1 = n1 (s.set i (f v))) (k : List β → Option R) :
    ∀ (us p : List Int), z = p ++ us → rangeC body (List.replicate us.length ()) p.length (p.map f ++ List.replicate us.length z0) k = k (z.map f)
  | [], p, e => by rw [List.length_nil, List.replicate_zero, rangeC, List.replicate_zero, List.append_nil, e, List.append_nil]
  | u :: us, p, e => by
    have hzl : m = p.length + (us.length + 1) := by rw [← hz, e]; simp
    have hget : (p.map f ++ List.replicate (us.length + 1) z0)[p.length]? = some z0 := by
      rw [List.getElem?_append_right (by simp), List.length_map, Nat.sub_self, List.replicate_succ]; rfl
    rw [List.length_cons, List.replicate_succ, rangeC, hb p.length _ _ u (by rw [e, List.getElem?_append_right (Nat.le_refl _), Nat.sub_self]; rfl) (by simp; omega) hget]
    have h2 : List.set (p.map f ++ List.replicate (us.length + 1) z0) p.length (f u) = (p ++ [u]).map f ++ List.replicate us.length z0 := by
      rw [List.set_append_right _ _ (by simp), List.length_map, Nat.sub_self, List.replicate_succ, List.set_cons_zero, List.map_append, List.append_assoc]; rfl
    rw [h2]
    have := iniG hz hb k us (p ++ [u]) (by rw [e]; simp)
    rw [List.length_append] at this
    exact this
theorem href_ini {a : Automaton} (ha : OKa a) {z : List Int} (hz : z.length = a.States.toNat) {n : Nat} {t : Tree} (hd : tdT t < n) (hs : tsT t ≤ 80) {R : Type} (k : List ref22_cut → Option R) :
    rangeI ((a.States).toNat : Int) (List.replicate a.States.toNat zh) (fun k2 i2 (s2 : (List ref22_cut)) n2 =>
      (z[i2]?).bind fun v11 =>
      if 0 < v11 then
        (ref01_Size n t).bind fun v12 =>
        (idxM ((a.States).toNat) s2 (i2 : Int)).bind fun v13 =>
        n2 (List.set s2 i2 (ref22_cut.mk true v12 [([] : List Int)]))
      else
        n2 s2) k = k (iniH (posV z) (tsT t)) := by
  have hst := ha.st
  rw [rangeI, if_pos (by omega), Int.toNat_natCast]
  have hini := iniG (β := ref22_cut) (f := fun v => if 0 < v then ⟨true, (tsT t : Int), [[]]⟩ else zh) (z0 := zh) hz (body := fun i2 (_ : Unit) (s2 : (List ref22_cut)) n2 =>
      (z[i2]?).bind fun v11 =>
      if 0 < v11 then
        (ref01_Size n t).bind fun v12 =>
        (idxM ((a.States).toNat) s2 (i2 : Int)).bind fun v13 =>
        n2 (List.set s2 i2 (ref22_cut.mk true v12 [([] : List Int)]))
      else
        n2 s2) (fun i s n1 v hv hl hs0 => by
          rw [hv]
          simp only [Option.bind_some]
          by_cases c : 0 < v
          · rw [if_pos c, if_pos c, ref01_Size_eq n t (by omega) (by omega)]
            simp only [Option.bind_some]
            have hlt := (List.getElem?_eq_some_iff.1 hs0).1
            have : idxM a.States.toNat s (i : Int) = some zh := by unfold idxM; rw [if_pos (by omega), Int.toNat_natCast, hs0]
            rw [this]; rfl
          · rw [if_neg c, if_neg c]
            congr 1
            apply List.ext_getElem?
            intro j
            by_cases e : i = j
            · subst e
              rw [List.getElem?_set_self (List.getElem?_eq_some_iff.1 hs0).1, hs0]
            · rw [List.getElem?_set_ne e]) k z [] rfl
  have hinie : z.map (fun v => if 0 < v then (⟨true, (tsT t : Int), [[]]⟩ : ref22_cut) else zh) = iniH (posV z) (tsT t) := by
    unfold iniH posV
    rw [List.map_map]
    apply List.map_congr_left
    intro v _
    simp only [Function.comp_apply, decide_eq_true_eq]
  rw [← hinie, ← hini, hz]
  rfl
theorem href_row {a : Automaton} (ha : OKa a) {t : Tree} (hs : tsT t ≤ 80) {ks : List (List ref22_cut)} (hK : HK a.States.toNat ks t.Kids) (hxl : ∀ x ∈ a.Rules, x.Sym = t.Sym → x.From.length = ks.length) {R : Type} (row : List ref22_cut) (hG : HR a.States.toNat t row) (k : List ref22_cut → Option R) :
    rangeL a.Rules row (fun k15 i15 x15 (s15 : (List ref22_cut)) n15 =>
      if x15.Sym = t.Sym then
        rangeL x15.From (true, 0, ([] : List (List Int))) (fun k19 i19 x19 (s19 : Bool × Int × (List (List Int))) n19 =>
          (ks[i19]?).bind fun v5 =>
          (idx v5 x19).bind fun v6 =>
          if s19.1 = true then
            rangeL v6.l s19.2.2 (fun k20 i20 x20 (s20 : (List (List Int))) n20 =>
              (app 8 [(i19 : Int)] x20).bind fun v7 =>
              (app 24 s20 [v7]).bind fun v8 =>
              n20 v8) fun s20 =>
            n19 (v6.some, w64 (s19.2.1 + v6.nodes), s20)
          else
            rangeL v6.l s19.2.2 (fun k21 i21 x21 (s21 : (List (List Int))) n21 =>
              (app 8 [(i19 : Int)] x21).bind fun v9 =>
              (app 24 s21 [v9]).bind fun v10 =>
              n21 v10) fun s21 =>
            n19 (false, w64 (s19.2.1 + v6.nodes), s21)) fun s19 =>
        if s19.1 = true then
          (idxM ((a.States).toNat) s15 x15.To).bind fun v3 =>
          (ref22_cut_less (ref22_cut.mk true s19.2.1 s19.2.2) v3).bind fun v4 =>
          if v4 = true then
            n15 (List.set s15 ((x15.To).toNat) (ref22_cut.mk true s19.2.1 s19.2.2))
          else
            n15 s15
        else
          n15 s15
      else
        n15 s15) k = k (a.Rules.foldl (stepH ks t.Sym) row) := by
  have hst := ha.st
  have hrl := ha.rul
  have hts := tsT_eq t
  have htd := tdT_eq t
  have htl := td_le t
  rw [rangeL, if_pos (by omega)]
  refine (foldC (step := stepH ks t.Sym) (HR a.States.toNat t) a.Rules 0 row k hG ?_ (fun x s _ h => step_HR hK h x)).1
  intro j x row n1 hx hg
  have hto := ha.to x hx
  have hfr := ha.frm x hx
  have hff := ha.from' x hx
  unfold stepH
  by_cases c1 : x.Sym = t.Sym
  · rw [if_pos c1, if_pos c1]
    have hxl := hxl x hx c1
    rw [rangeL, if_pos (by omega), href_inner (m := a.States.toNat) ks ks t.Kids x.From 0 (true, 0, []) _ hK (fun i => by rw [Nat.zero_add]) hxl (fun y hy => by have := hff y hy; omega) (Int.le_refl _) (by simp only []; omega) (by simp only [List.length_nil]; omega) (by omega)]
    by_cases c2 : (hf 0 ks x.From (true, 0, [])).1 = true
    · rw [if_pos c2, if_pos c2]
      have hrow : idxM a.States.toNat row x.To = some ((row[x.To.toNat]?).getD zh) := by
        unfold idxM
        rw [if_pos (by omega), List.getElem?_eq_getElem (by rw [hg.1]; omega)]; rfl
      rw [hrow]
      simp only [Option.bind_some]
      have hl := cutless_eq (mkH (hf 0 ks x.From (true, 0, []))) ((row[x.To.toNat]?).getD zh) (sml_hf hK hs x.From)
      unfold mkH at hl ⊢
      rw [hl]
      simp only [Option.bind_some]
      split <;> rfl
    · rw [if_neg c2, if_neg c2]
  · rw [if_neg c1, if_neg c1]
theorem mk40_eq {a : Automaton} (ha : OKa a) : mkz 40 a.States a.States (ref22_cut.mk false 0 ([] : List (List Int))) = some (List.replicate a.States.toNat zh) := by
  have hst := ha.st
  unfold mkz zh; rw [if_pos (by omega)]
theorem href_eq {r : List Int} {a : Automaton} (ha : OKa a) (hfit : Fit r a) {z : List Int} (hz : z.length = a.States.toNat) : ∀ (n : Nat) (t : Tree), tdT t + 1 < n → tsT t ≤ 80 → shT r t = true → ref22_cuts n a z t = some (cuT a (posV z) t) := by
  intro n
  induction n with
  | zero => intro t h; omega
  | succ n ih =>
    intro t hd hs hsh
    obtain ⟨hsk, hsl⟩ := sh_out hsh
    have hkl := tlen t.Kids
    have hts := tsT_eq t
    have htd := tdT_eq t
    rw [ref22_cuts, rangeL, if_pos (by omega)]
    have hkids : ∀ (l : List Tree) (i : Nat) (q : List (List ref22_cut)) (k : List (List ref22_cut) → Option (List ref22_cut)), (∀ x ∈ l, x ∈ t.Kids) → q.length + l.length ≤ 1000 → rangeC (fun i1 x1 (s1 : (List (List ref22_cut))) n1 => (ref22_cuts n a z x1).bind fun v14 => (app 24 s1 [v14]).bind fun v15 => n1 v15) l i q k = k (q ++ cuL a (posV z) l) := by
      intro l
      induction l with
      | nil => intro i q k _ _; rw [rangeC, cuL, List.append_nil]
      | cons x l ihl =>
        intro i q k hm hq
        have hx := td_mem (hm x (by simp))
        have hx2 := ts_mem (hm x (by simp))
        rw [List.length_cons] at hq
        rw [rangeC, ih x (by omega) (by omega) (shL_mem hsl x (hm x (by simp)))]
        simp only [Option.bind_some]
        rw [app_ok (by simp only [List.length_cons, List.length_nil]; omega)]
        simp only [Option.bind_some]
        rw [ihl _ _ _ (fun y hy => hm y (List.mem_cons_of_mem _ hy)) (by simp only [List.length_append, List.length_cons, List.length_nil]; omega), cuL]
        simp
    rw [hkids t.Kids 0 [] _ (fun _ h => h) (by simp only [List.length_nil]; omega), List.nil_append]
    have hst := ha.st
    rw [mk40_eq ha, Option.bind_some]
    have hzp : (posV z).length = a.States.toNat := by unfold posV; rw [List.length_map, hz]
    have hK := cuL_HK a hzp t.Kids
    have hKl := cuL_len a (posV z) t.Kids
    rw [href_ini ha hz (by omega) hs, href_row ha hs hK (fun x hx e => by have h1 := hfit x hx; rw [e] at h1; omega) _ (iniH_HR hzp t)]
    have hG : HR a.States.toNat t (a.Rules.foldl (stepH (cuL a (posV z) t.Kids) t.Sym) (iniH (posV z) (tsT t))) := row_HR (a := a) hzp hK
    rw [tkM_eq hG.1, cuT_eq, Option.bind_some, rowH]
end Go.AM.S22

namespace Go.AM.S22
namespace Hol
open Go Go.Proofs Go.AM
set_option maxRecDepth 100000
set_option linter.unusedVariables false
set_option maxHeartbeats 4000000
abbrev PS := Option (Nat × List (List repair_holes) × Nat)
def pv : PS → AV
  | none => .nms 4 1
  | some (g, _, n) => .ms 4 g 1 0 n
def po : PS → AObj
  | none => .dead
  | some (g, l, _) => .arr g 1 (List.map (rowA (rowL 3 row_repair_holes)) l)
def yS (σ : List AObj) (s : PS) : List AObj := (σ.set 4 (po s)).set 5 (.cells [pv s])
theorem yS_len (σ : List AObj) (s : PS) : (yS σ s).length = σ.length := by simp [yS]
theorem yS_get (σ : List AObj) (s : PS) {i : Nat} (h : i ≠ 4 ∧ i ≠ 5) : (yS σ s)[i]? = σ[i]? := by
  unfold yS; rw [List.getElem?_set_ne (by omega), List.getElem?_set_ne (by omega)]
theorem yS_4 {σ : List AObj} (s : PS) (h : 8 ≤ σ.length) : (yS σ s)[4]? = some (po s) := by
  unfold yS; rw [List.getElem?_set_ne (by decide), List.getElem?_set_self (by omega)]
theorem yS_5 {σ : List AObj} (s : PS) (h : 8 ≤ σ.length) : (yS σ s)[5]? = some (.cells [pv s]) := by
  unfold yS; rw [List.getElem?_set_self (by simp; omega)]
theorem yS_set (σ : List AObj) (s p : PS) : ((yS σ s).set 4 (po p)).set 5 (.cells [pv p]) = yS σ p := by
  unfold yS
  rw [List.set_comm _ _ (by decide : 5 ≠ 4), List.set_set, List.set_set]
theorem yS_app {σ : List AObj} (s : PS) (h : 8 ≤ σ.length) (l : List AObj) : yS σ s ++ l = yS (σ ++ l) s := by
  unfold yS
  rw [List.set_append_left _ _ (by omega), List.set_append_left _ _ (by simp; omega)]
def holRow0 (n : Nat) (a : Automaton) (z : List Int) (u : Tree) : Option (List (List repair_holes) × Nat) :=
  (mkz 40 a.States a.States (repair_holes.mk false 0 ([] : List (List Int)))).bind fun v1 =>
  rangeI ((a.States).toNat : Int) v1 (fun k1 i1 (s1 : (List repair_holes)) n1 =>
    (z[i1]?).bind fun v9 =>
    (tree_Size n u).bind fun v10 =>
    (idxM ((a.States).toNat) s1 (i1 : Int)).bind fun v11 =>
    n1 (List.set s1 i1 (repair_holes.mk (decide (0 < v9)) v10 [([] : List Int)]))) fun s1 =>
  rangeL a.Rules s1 (fun k2 i2 x2 (s2 : (List repair_holes)) n2 =>
    (cutM 0 (w64 (0 - (u.Kids.length : Int)))).bind fun v5 =>
    (repair_within x2 u ([] : List (List repair_holes))).bind fun v6 =>
    if v6.2 = true then
      (idxM ((a.States).toNat) s2 x2.To).bind fun v7 =>
      (repair_fewer v6.1 v7).bind fun v8 =>
      if v8 = true then
        n2 (List.set s2 ((x2.To).toNat) v6.1)
      else
        n2 s2
    else
      n2 s2) fun s2 =>
  (cutM 0 (w64 (0 - (u.Kids.length : Int)))).bind fun v2 =>
  (allM 0 ((a.States).toNat) s2).bind fun v3 =>
  (appM 24 0 ([] : List (List repair_holes)) [v3]).bind fun v4 =>
  some (v4, 1)
theorem holRow0_spec {E : Env} (hE4 : get E 4 = .ptr 1 0) (hE10 : get E 10 = .ptr 5 0) (hE8 : get E 8 = .ptr 3 0) (hEl : ∀ t, ltV 7 (get E t) = true) {σ : List AObj} (hl : 8 ≤ σ.length) (n : Nat) (a : Automaton) (z : List Int) (u : Tree) (o1 : σ[1]? = some (.cells [.p (iv a.States), .p (.sl none 1 (List.map rowI a.Final)), .p (.sl none 3 (List.map row_Rule a.Rules))])) (o3 : σ[3]? = some (.cells [.p (.sl none 1 (List.map rowI z))]))  (r : List (List repair_holes) × Nat) (h : holRow0 n a z u = some r) (i : Int) (K : Ex × S → Option (Out × List AObj)) (Q : Out × List AObj → Prop)
    (hK : ∀ env loc, Sat (K (.normal, ⟨env, yS σ (some (1, r.1, r.2)) ++ loc, [], none, false⟩)) Q) :
    Sat (run Try.prog T H 13 σ.length 0 B13_0 ⟨(12, .ptr σ.length 0) :: (45, .p (iv i)) :: (46, .p (.agg [iv u.Sym, .sl none 2 (List.map row_Tree u.Kids)])) :: E, (yS σ none) ++ [.cells [.p (iv u.Sym), .p (.sl none 2 (List.map row_Tree u.Kids))]], [], none, false⟩ K) Q := by
  unfold holRow0 at h
  have yl := fun s => yS_len σ s
  have b1 : ∀ s l, (yS σ s ++ l)[1]? = some (.cells [.p (iv a.States), .p (.sl none 1 (List.map rowI a.Final)), .p (.sl none 3 (List.map row_Rule a.Rules))]) := fun s l => by rw [List.getElem?_append_left (by rw [yS_len]; omega), yS_get _ _ (by decide), o1]
  have b3 : ∀ s l, (yS σ s ++ l)[3]? = some (.cells [.p (.sl none 1 (List.map rowI z))]) := fun s l => by rw [List.getElem?_append_left (by rw [yS_len]; omega), yS_get _ _ (by decide), o3]
  have f5 : ∀ k, (yS σ none ++ k)[5]? = some (.cells [.nms 4 1]) := fun k => by rw [List.getElem?_append_left (by rw [yS_len]; omega), yS_5 _ (by omega)]; rfl
  have fd : ∀ k, (yS σ none ++ k)[4]? = some .dead := fun k => by rw [List.getElem?_append_left (by rw [yS_len]; omega), yS_4 _ (by omega)]; rfl
  have f45 : ∀ k X, ((yS σ none ++ k).set 4 X)[5]? = some (.cells [.nms 4 1]) := fun k X => by rw [List.getElem?_set_ne (by decide)]; exact f5 k
  have hp : ∀ k v m, ((yS σ none ++ k).set 4 (.arr 1 1 (List.map (rowA (rowL 3 row_repair_holes)) v))).set 5 (.cells [.ms 4 1 1 0 m]) = yS σ (some (1, v, m)) ++ k := fun k v m => by rw [List.set_append_left _ _ (by rw [yS_len]; omega), List.set_append_left _ _ (by rw [List.length_set, yS_len]; omega)]; exact congrArg (· ++ k) (yS_set σ _ (some (1, v, m)))
  have g0 : ∀ s l, (yS σ s ++ l)[σ.length]? = l[0]? := fun s l => sA0 (yS_len σ s)
  have gk : ∀ s l k, (yS σ s ++ l)[σ.length + k]? = l[k]? := fun s l k => sAK (yS_len σ s)
  have s0 : ∀ s l y, (yS σ s ++ l).set σ.length y = yS σ s ++ l.set 0 y := fun s l y => sS0 (yS_len σ s)
  have sk : ∀ s l y k, (yS σ s ++ l).set (σ.length + k) y = yS σ s ++ l.set k y := fun s l y k => sSK (yS_len σ s)
  have t0 : ∀ s l, (yS σ s ++ l).take σ.length = yS σ s := fun s l => sT0 (yS_len σ s)
  have tk : ∀ s l k, (yS σ s ++ l).take (σ.length + k) = yS σ s ++ l.take k := fun s l k => sTK (yS_len σ s)
  have tx : ∀ s, (yS σ s).take σ.length = yS σ s := fun s => sTX (yS_len σ s)
  have lt : ∀ k, 1 < σ.length + k ∧ 3 < σ.length + k ∧ 4 < σ.length + k ∧ 5 < σ.length + k := fun k => by omega
  have lE : ∀ t k, ltV (σ.length + k) (get E t) = true := fun t k => ltV_mono (by omega) _ (hEl t)
  have lE0 : ∀ t, ltV σ.length (get E t) = true := fun t => ltV_mono (by omega) _ (hEl t)
  conv => arg 1; arg 7; unfold B13_0 rangeB S22.c13 Try.f13; simp only [rangeIn, Option.getD_some, if_true]
  obtain ⟨v1, e_v1, h⟩ := ob h
  obtain ⟨e_v11, e_v12, e_v13, e_v14⟩ := mkz_some e_v1
  have e_v1b : boundOk (a.States).toNat 40 = true := bnd_of e_v13 (by decide)
  have e_v1r : List.replicate (a.States).toNat [AV.p (bv false), AV.p (iv 0), AV.p (.sl none 1 [])] = List.map (rowA row_repair_holes) v1 := by rw [e_v14]; exact rep_map (by first | rfl | simp only [go_sem, List.map_nil])
  simp only [go_sem, e_v11, e_v12, e_v1b, e_v1r, hE4, hE10, hE8, yl, b1, b3, f5, fd, f45, hp, g0, gk, s0, sk, t0, tk, tx, lt, lE, lE0]
  refine run_rangeI (c := L13_2) (live := [4, 8, 10, 12, 13, 14, 57, 58]) (by simp only [go_sem]) (M := fun i1 (s1 : (List repair_holes)) => [(4, .ptr 1 0), (8, .ptr 3 0), (10, .ptr 5 0), (12, .ptr σ.length 0), (13, .p (iv (w64 (0 - (u.Kids.length : Int))))), (14, .ms (σ.length + 1) 0 3 0 ((a.States).toNat)), (57, .p (iv ((a.States).toNat : Int))), (58, .p (iv (i1 : Int)))]) (Z := fun i1 (s1 : (List repair_holes)) => ((yS σ none) ++ [.cells [.p (iv u.Sym), .p (.sl none 2 (List.map row_Tree u.Kids))], .arr 0 3 (List.map (rowA row_repair_holes) s1)])) (N := fun (s1 : (List repair_holes)) => ⟨[(4, .ptr 1 0), (8, .ptr 3 0), (10, .ptr 5 0), (12, .ptr σ.length 0), (13, .p (iv (w64 (0 - (u.Kids.length : Int))))), (14, .ms (σ.length + 1) 0 3 0 ((a.States).toNat))], ((yS σ none) ++ [.cells [.p (iv u.Sym), .p (.sl none 2 (List.map row_Tree u.Kids))], .arr 0 3 (List.map (rowA row_repair_holes) s1)]), [], none, false⟩) h (by first | rfl | (simp only [go_sem, hE4, hE10, hE8, yl, b1, b3, f5, fd, f45, hp, g0, gk, s0, sk, t0, tk, tx, lt, lE, lE0]; done) | (simp only [go_sem, hE4, hE10, hE8, yl, b1, b3, f5, fd, f45, hp, g0, gk, s0, sk, t0, tk, tx, lt, lE, lE0]; rfl)) (by first | rfl | (simp only [go_sem, hE4, hE10, hE8, yl, b1, b3, f5, fd, f45, hp, g0, gk, s0, sk, t0, tk, tx, lt, lE, lE0]; done) | (simp only [go_sem, hE4, hE10, hE8, yl, b1, b3, f5, fd, f45, hp, g0, gk, s0, sk, t0, tk, tx, lt, lE, lE0]; rfl)) (fun _ _ => rfl) ?_ ?_ ?_
  · intro s1 h
    try dsimp only at h ⊢
    simp only [go_sem, hE4, hE10, hE8, yl, b1, b3, f5, fd, f45, hp, g0, gk, s0, sk, t0, tk, tx, lt, lE, lE0]
    refine run_rangeL (c := L13_4) (live := [4, 8, 10, 12, 13, 14, 76, 77, 78]) (by simp only [go_sem]) (M := fun i2 (s2 : (List repair_holes)) => [(4, .ptr 1 0), (8, .ptr 3 0), (10, .ptr 5 0), (12, .ptr σ.length 0), (13, .p (iv (w64 (0 - (u.Kids.length : Int))))), (14, .ms (σ.length + 1) 0 3 0 ((a.States).toNat)), (76, .p (.sl none 3 (List.map row_Rule a.Rules))), (77, .p (iv (a.Rules.length : Int))), (78, .p (iv (i2 : Int)))]) (Z := fun i2 (s2 : (List repair_holes)) => ((yS σ none) ++ [.cells [.p (iv u.Sym), .p (.sl none 2 (List.map row_Tree u.Kids))], .arr 0 3 (List.map (rowA row_repair_holes) s2)])) (N := fun (s2 : (List repair_holes)) => ⟨[(4, .ptr 1 0), (8, .ptr 3 0), (10, .ptr 5 0), (13, .p (iv (w64 (0 - (u.Kids.length : Int))))), (14, .ms (σ.length + 1) 0 3 0 ((a.States).toNat))], ((yS σ none) ++ [.cells [.p (iv u.Sym), .p (.sl none 2 (List.map row_Tree u.Kids))], .arr 0 3 (List.map (rowA row_repair_holes) s2)]), [], none, false⟩) h (by first | rfl | (simp only [go_sem, hE4, hE10, hE8, yl, b1, b3, f5, fd, f45, hp, g0, gk, s0, sk, t0, tk, tx, lt, lE, lE0]; done) | (simp only [go_sem, hE4, hE10, hE8, yl, b1, b3, f5, fd, f45, hp, g0, gk, s0, sk, t0, tk, tx, lt, lE, lE0]; rfl)) (by first | rfl | (simp only [go_sem, hE4, hE10, hE8, yl, b1, b3, f5, fd, f45, hp, g0, gk, s0, sk, t0, tk, tx, lt, lE, lE0]; done) | (simp only [go_sem, hE4, hE10, hE8, yl, b1, b3, f5, fd, f45, hp, g0, gk, s0, sk, t0, tk, tx, lt, lE, lE0]; rfl)) (fun _ _ => rfl) ?_ ?_ ?_
    · intro s2 h
      try dsimp only at h ⊢
      obtain ⟨v2, e_v2, h⟩ := ob h
      obtain ⟨e_v2a, e_v2b, e_v2d⟩ := cutM_some e_v2
      have e_v2z : v2 = 0 := Nat.le_zero.1 e_v2b
      obtain ⟨v3, e_v3, h⟩ := ob h
      have e_v3a := (allM_some e_v3).1
      have e_v3b := (allM_some e_v3).2
      try simp only [Nat.zero_add] at e_v3a
      try simp only [List.drop_zero] at e_v3b
      obtain ⟨v4, e_v4, h⟩ := ob h
      have e_v4a := (appM_some e_v4).1
      have e_v4b : boundOk (1) 24 = true := by decide
      have e_v4l : v4.length = 1 := by rw [← (appM_some e_v4).2.2]; rfl
      have e_v4e : (List.map (rowA (rowL 3 row_repair_holes)) v4).isEmpty = false := by rw [← (appM_some e_v4).2.2]; rfl
      have e_v4c : [[AV.p (.sl none 3 (List.map row_repair_holes v3))]] = List.map (rowA (rowL 3 row_repair_holes)) v4 := by rw [← (appM_some e_v4).2.2]; simp [rowA, rowL, row_repair_holes_eq]
      simp only [go_sem, e_v2a, e_v2d, e_v2z, e_v3a, e_v3b, e_v4b, e_v4l, e_v4e, e_v4c, hE4, hE10, hE8, yl, b1, b3, f5, fd, f45, hp, g0, gk, s0, sk, t0, tk, tx, lt, lE, lE0]
      injection h with h; subst h
      exact hK _ _
    · intro K2 s2 hb2 he2
      try dsimp only
      conv => arg 1; arg 7; unfold L13_4 loopAt S22.c13 Try.f13; simp only [loopIn, Option.getD_some, if_true]
      simp only [go_sem, he2, hE4, hE10, hE8, yl, b1, b3, f5, fd, f45, hp, g0, gk, s0, sk, t0, tk, tx, lt, lE, lE0]
      exact hb2
    · intro K2 k2 i2 x2 s2 n2 hR2 hE2 hb2 hx2 hi2 hw2 ih2 h
      try dsimp only at h ⊢
      conv => arg 1; arg 7; unfold L13_4 loopAt S22.c13 Try.f13; simp only [loopIn, Option.getD_some, if_true]
      obtain ⟨v5, e_v5, h⟩ := ob h
      obtain ⟨e_v5a, e_v5b, e_v5d⟩ := cutM_some e_v5
      have e_v5z : v5 = 0 := Nat.le_zero.1 e_v5b
      obtain ⟨v6, e_v6, h⟩ := ob h
      have e_v6c : call Try.prog T H (.fn 39) [.p (.agg [iv x2.Sym, .sl none 1 (List.map rowI x2.From), iv x2.To]), .p (.agg [iv u.Sym, .sl none 2 (List.map row_Tree u.Kids)]), .p (.sl none 1 [])] [] = some (.ret (.p (.tup [.agg [bv v6.1.ok, iv v6.1.gone, .sl none 1 (List.map (rowL 1 rowI) v6.1.list)], bv v6.2])), []) := spec39 x2 u ([] : List (List repair_holes)) v6 e_v6
      by_cases c1 : v6.2 = true
      · have h := iteT h c1
        obtain ⟨v7, e_v7, h⟩ := ob h
        obtain ⟨e_v7a, e_v7b, e_v7d⟩ := idxM_some e_v7
        obtain ⟨v8, e_v8, h⟩ := ob h
        have e_v8c : call Try.prog T H (.fn 40) [.p (.agg [bv v6.1.ok, iv v6.1.gone, .sl none 1 (List.map (rowL 1 rowI) v6.1.list)]), .p (.agg [bv v7.ok, iv v7.gone, .sl none 1 (List.map (rowL 1 rowI) v7.list)])] [] = some (.ret (.p (bv v8)), []) := spec40 v6.1 v7 v8 e_v8
        by_cases c2 : v8 = true
        · have h := iteT h c2
          have e_y1 : List.set (List.map (rowA row_repair_holes) s2) ((x2.To).toNat) [.p (bv v6.1.ok), .p (iv v6.1.gone), .p (.sl none 1 (List.map (rowL 1 rowI) v6.1.list))] = List.map (rowA row_repair_holes) (List.set s2 ((x2.To).toNat) v6.1) := map_set' (by first | rfl | simp only [go_sem, List.map_cons, List.map_nil])
          simp only [go_sem, hx2, hi2, hw2, e_v5a, e_v5d, e_v5z, e_v6c, c1, e_v7a, e_v7b, e_v7d, e_v8c, c2, e_y1, hR2, hE2, hE4, hE10, hE8, yl, b1, b3, f5, fd, f45, hp, g0, gk, s0, sk, t0, tk, tx, lt, lE, lE0]
          exact ih2 (List.set s2 ((x2.To).toNat) v6.1) h
        · have h := iteF h c2
          have c2 := eq_false_of_ne_true c2
          simp only [go_sem, hx2, hi2, hw2, e_v5a, e_v5d, e_v5z, e_v6c, c1, e_v7a, e_v7b, e_v7d, e_v8c, c2, hR2, hE2, hE4, hE10, hE8, yl, b1, b3, f5, fd, f45, hp, g0, gk, s0, sk, t0, tk, tx, lt, lE, lE0]
          exact ih2 s2 h
      · have h := iteF h c1
        have c1 := eq_false_of_ne_true c1
        simp only [go_sem, hx2, hi2, hw2, e_v5a, e_v5d, e_v5z, e_v6c, c1, hR2, hE2, hE4, hE10, hE8, yl, b1, b3, f5, fd, f45, hp, g0, gk, s0, sk, t0, tk, tx, lt, lE, lE0]
        exact ih2 s2 h
  · intro K1 i1 s1 hb1 he1
    try dsimp only
    conv => arg 1; arg 7; unfold L13_2 loopAt S22.c13 Try.f13; simp only [loopIn, Option.getD_some, if_true]
    simp only [go_sem, he1, hE4, hE10, hE8, yl, b1, b3, f5, fd, f45, hp, g0, gk, s0, sk, t0, tk, tx, lt, lE, lE0]
    exact hb1
  · intro K1 k1 i1 s1 n1 hR1 hE1 hb1 hi1 hw1 ih1 h
    try dsimp only at h ⊢
    conv => arg 1; arg 7; unfold L13_2 loopAt S22.c13 Try.f13; simp only [loopIn, Option.getD_some, if_true]
    obtain ⟨v9, e_v9, h⟩ := ob h
    obtain ⟨v10, e_v10, h⟩ := ob h
    have e_v10c : call Try.prog T H (.fn 38) [.p (.agg [iv u.Sym, .sl none 2 (List.map row_Tree u.Kids)])] [] = some (.ret (.p (iv v10)), []) := spec38 n u v10 e_v10
    obtain ⟨v11, e_v11, h⟩ := ob h
    obtain ⟨e_v11a, e_v11b, e_v11d⟩ := idxM_some e_v11
    simp only [Int.toNat_natCast] at e_v11b
    simp only [Int.toNat_natCast] at e_v11d
    have e_y2 : List.set (List.map (rowA row_repair_holes) s1) i1 [.p (bv (decide (0 < v9))), .p (iv v10), .p (.sl none 1 [[.sl none 1 []]])] = List.map (rowA row_repair_holes) (List.set s1 i1 (repair_holes.mk (decide (0 < v9)) v10 [([] : List Int)])) := map_set' (by first | rfl | simp only [go_sem, List.map_cons, List.map_nil])
    simp only [go_sem, hi1, hw1, e_v9, e_v10c, e_v11b, e_v11d, e_y2, hR1, hE1, hE4, hE10, hE8, yl, b1, b3, f5, fd, f45, hp, g0, gk, s0, sk, t0, tk, tx, lt, lE, lE0]
    exact ih1 (List.set s1 i1 (repair_holes.mk (decide (0 < v9)) v10 [([] : List Int)])) h
def holRow (n : Nat) (a : Automaton) (z : List Int) (u : Tree) (o : List (List repair_holes)) (l : Nat) : Option (List (List repair_holes) × Nat) :=
  (mkz 40 a.States a.States (repair_holes.mk false 0 ([] : List (List Int)))).bind fun v1 =>
  rangeI ((a.States).toNat : Int) v1 (fun k1 i1 (s1 : (List repair_holes)) n1 =>
    (z[i1]?).bind fun v9 =>
    (tree_Size n u).bind fun v10 =>
    (idxM ((a.States).toNat) s1 (i1 : Int)).bind fun v11 =>
    n1 (List.set s1 i1 (repair_holes.mk (decide (0 < v9)) v10 [([] : List Int)]))) fun s1 =>
  rangeL a.Rules s1 (fun k2 i2 x2 (s2 : (List repair_holes)) n2 =>
    (cutM l (w64 ((l : Int) - (u.Kids.length : Int)))).bind fun v5 =>
    (repair_within_xxq x2 u o (l - v5) v5).bind fun v6 =>
    if v6.2 = true then
      (idxM ((a.States).toNat) s2 x2.To).bind fun v7 =>
      (repair_fewer v6.1 v7).bind fun v8 =>
      if v8 = true then
        n2 (List.set s2 ((x2.To).toNat) v6.1)
      else
        n2 s2
    else
      n2 s2) fun s2 =>
  (cutM l (w64 ((l : Int) - (u.Kids.length : Int)))).bind fun v2 =>
  (allM 0 ((a.States).toNat) s2).bind fun v3 =>
  (appM 24 v2 o [v3]).bind fun v4 =>
  some (v4, (v2 + 1))
theorem holRow_spec {E : Env} (hE4 : get E 4 = .ptr 1 0) (hE10 : get E 10 = .ptr 5 0) (hE8 : get E 8 = .ptr 3 0) (hEl : ∀ t, ltV 7 (get E t) = true) {σ : List AObj} (hl : 8 ≤ σ.length) (n : Nat) (a : Automaton) (z : List Int) (u : Tree) (g : Nat) (o : List (List repair_holes)) (l : Nat) (o1 : σ[1]? = some (.cells [.p (iv a.States), .p (.sl none 1 (List.map rowI a.Final)), .p (.sl none 3 (List.map row_Rule a.Rules))])) (o3 : σ[3]? = some (.cells [.p (.sl none 1 (List.map rowI z))]))  (r : List (List repair_holes) × Nat) (h : holRow n a z u o l = some r) (i : Int) (K : Ex × S → Option (Out × List AObj)) (Q : Out × List AObj → Prop)
    (hK : ∀ env loc, Sat (K (.normal, ⟨env, yS σ (some ((g + 1), r.1, r.2)) ++ loc, [], none, false⟩)) Q) :
    Sat (run Try.prog T H 13 σ.length 0 B13_0 ⟨(12, .ptr σ.length 0) :: (45, .p (iv i)) :: (46, .p (.agg [iv u.Sym, .sl none 2 (List.map row_Tree u.Kids)])) :: E, (yS σ (some (g, o, l))) ++ [.cells [.p (iv u.Sym), .p (.sl none 2 (List.map row_Tree u.Kids))]], [], none, false⟩ K) Q := by
  unfold holRow at h
  have yl := fun s => yS_len σ s
  have b1 : ∀ s l, (yS σ s ++ l)[1]? = some (.cells [.p (iv a.States), .p (.sl none 1 (List.map rowI a.Final)), .p (.sl none 3 (List.map row_Rule a.Rules))]) := fun s l => by rw [List.getElem?_append_left (by rw [yS_len]; omega), yS_get _ _ (by decide), o1]
  have b3 : ∀ s l, (yS σ s ++ l)[3]? = some (.cells [.p (.sl none 1 (List.map rowI z))]) := fun s l => by rw [List.getElem?_append_left (by rw [yS_len]; omega), yS_get _ _ (by decide), o3]
  have f5 : ∀ k, (yS σ (some (g, o, l)) ++ k)[5]? = some (.cells [.ms 4 g 1 0 l]) := fun k => by rw [List.getElem?_append_left (by rw [yS_len]; omega), yS_5 _ (by omega)]; rfl
  have f4 : ∀ k, (yS σ (some (g, o, l)) ++ k)[4]? = some (.arr g 1 (List.map (rowA (rowL 3 row_repair_holes)) o)) := fun k => by rw [List.getElem?_append_left (by rw [yS_len]; omega), yS_4 _ (by omega)]; rfl
  have f45 : ∀ k X, ((yS σ (some (g, o, l)) ++ k).set 4 X)[5]? = some (.cells [.ms 4 g 1 0 l]) := fun k X => by rw [List.getElem?_set_ne (by decide)]; exact f5 k
  have hp : ∀ k v m, ((yS σ (some (g, o, l)) ++ k).set 4 (.arr (g + 1) 1 (List.map (rowA (rowL 3 row_repair_holes)) v))).set 5 (.cells [.ms 4 (g + 1) 1 0 m]) = yS σ (some ((g + 1), v, m)) ++ k := fun k v m => by rw [List.set_append_left _ _ (by rw [yS_len]; omega), List.set_append_left _ _ (by rw [List.length_set, yS_len]; omega)]; exact congrArg (· ++ k) (yS_set σ _ (some ((g + 1), v, m)))
  have g0 : ∀ s l, (yS σ s ++ l)[σ.length]? = l[0]? := fun s l => sA0 (yS_len σ s)
  have gk : ∀ s l k, (yS σ s ++ l)[σ.length + k]? = l[k]? := fun s l k => sAK (yS_len σ s)
  have s0 : ∀ s l y, (yS σ s ++ l).set σ.length y = yS σ s ++ l.set 0 y := fun s l y => sS0 (yS_len σ s)
  have sk : ∀ s l y k, (yS σ s ++ l).set (σ.length + k) y = yS σ s ++ l.set k y := fun s l y k => sSK (yS_len σ s)
  have t0 : ∀ s l, (yS σ s ++ l).take σ.length = yS σ s := fun s l => sT0 (yS_len σ s)
  have tk : ∀ s l k, (yS σ s ++ l).take (σ.length + k) = yS σ s ++ l.take k := fun s l k => sTK (yS_len σ s)
  have tx : ∀ s, (yS σ s).take σ.length = yS σ s := fun s => sTX (yS_len σ s)
  have lt : ∀ k, 1 < σ.length + k ∧ 3 < σ.length + k ∧ 4 < σ.length + k ∧ 5 < σ.length + k := fun k => by omega
  have lE : ∀ t k, ltV (σ.length + k) (get E t) = true := fun t k => ltV_mono (by omega) _ (hEl t)
  have lE0 : ∀ t, ltV σ.length (get E t) = true := fun t => ltV_mono (by omega) _ (hEl t)
  conv => arg 1; arg 7; unfold B13_0 rangeB S22.c13 Try.f13; simp only [rangeIn, Option.getD_some, if_true]
  obtain ⟨v1, e_v1, h⟩ := ob h
  obtain ⟨e_v11, e_v12, e_v13, e_v14⟩ := mkz_some e_v1
  have e_v1b : boundOk (a.States).toNat 40 = true := bnd_of e_v13 (by decide)
  have e_v1r : List.replicate (a.States).toNat [AV.p (bv false), AV.p (iv 0), AV.p (.sl none 1 [])] = List.map (rowA row_repair_holes) v1 := by rw [e_v14]; exact rep_map (by first | rfl | simp only [go_sem, List.map_nil])
  simp only [go_sem, e_v11, e_v12, e_v1b, e_v1r, hE4, hE10, hE8, yl, b1, b3, f5, f4, f45, hp, g0, gk, s0, sk, t0, tk, tx, lt, lE, lE0]
  refine run_rangeI (c := L13_2) (live := [4, 8, 10, 12, 13, 14, 57, 58]) (by simp only [go_sem]) (M := fun i1 (s1 : (List repair_holes)) => [(4, .ptr 1 0), (8, .ptr 3 0), (10, .ptr 5 0), (12, .ptr σ.length 0), (13, .p (iv (w64 ((l : Int) - (u.Kids.length : Int))))), (14, .ms (σ.length + 1) 0 3 0 ((a.States).toNat)), (57, .p (iv ((a.States).toNat : Int))), (58, .p (iv (i1 : Int)))]) (Z := fun i1 (s1 : (List repair_holes)) => ((yS σ (some (g, o, l))) ++ [.cells [.p (iv u.Sym), .p (.sl none 2 (List.map row_Tree u.Kids))], .arr 0 3 (List.map (rowA row_repair_holes) s1)])) (N := fun (s1 : (List repair_holes)) => ⟨[(4, .ptr 1 0), (8, .ptr 3 0), (10, .ptr 5 0), (12, .ptr σ.length 0), (13, .p (iv (w64 ((l : Int) - (u.Kids.length : Int))))), (14, .ms (σ.length + 1) 0 3 0 ((a.States).toNat))], ((yS σ (some (g, o, l))) ++ [.cells [.p (iv u.Sym), .p (.sl none 2 (List.map row_Tree u.Kids))], .arr 0 3 (List.map (rowA row_repair_holes) s1)]), [], none, false⟩) h (by first | rfl | (simp only [go_sem, hE4, hE10, hE8, yl, b1, b3, f5, f4, f45, hp, g0, gk, s0, sk, t0, tk, tx, lt, lE, lE0]; done) | (simp only [go_sem, hE4, hE10, hE8, yl, b1, b3, f5, f4, f45, hp, g0, gk, s0, sk, t0, tk, tx, lt, lE, lE0]; rfl)) (by first | rfl | (simp only [go_sem, hE4, hE10, hE8, yl, b1, b3, f5, f4, f45, hp, g0, gk, s0, sk, t0, tk, tx, lt, lE, lE0]; done) | (simp only [go_sem, hE4, hE10, hE8, yl, b1, b3, f5, f4, f45, hp, g0, gk, s0, sk, t0, tk, tx, lt, lE, lE0]; rfl)) (fun _ _ => rfl) ?_ ?_ ?_
  · intro s1 h
    try dsimp only at h ⊢
    simp only [go_sem, hE4, hE10, hE8, yl, b1, b3, f5, f4, f45, hp, g0, gk, s0, sk, t0, tk, tx, lt, lE, lE0]
    refine run_rangeL (c := L13_4) (live := [4, 8, 10, 12, 13, 14, 76, 77, 78]) (by simp only [go_sem]) (M := fun i2 (s2 : (List repair_holes)) => [(4, .ptr 1 0), (8, .ptr 3 0), (10, .ptr 5 0), (12, .ptr σ.length 0), (13, .p (iv (w64 ((l : Int) - (u.Kids.length : Int))))), (14, .ms (σ.length + 1) 0 3 0 ((a.States).toNat)), (76, .p (.sl none 3 (List.map row_Rule a.Rules))), (77, .p (iv (a.Rules.length : Int))), (78, .p (iv (i2 : Int)))]) (Z := fun i2 (s2 : (List repair_holes)) => ((yS σ (some (g, o, l))) ++ [.cells [.p (iv u.Sym), .p (.sl none 2 (List.map row_Tree u.Kids))], .arr 0 3 (List.map (rowA row_repair_holes) s2)])) (N := fun (s2 : (List repair_holes)) => ⟨[(4, .ptr 1 0), (8, .ptr 3 0), (10, .ptr 5 0), (13, .p (iv (w64 ((l : Int) - (u.Kids.length : Int))))), (14, .ms (σ.length + 1) 0 3 0 ((a.States).toNat))], ((yS σ (some (g, o, l))) ++ [.cells [.p (iv u.Sym), .p (.sl none 2 (List.map row_Tree u.Kids))], .arr 0 3 (List.map (rowA row_repair_holes) s2)]), [], none, false⟩) h (by first | rfl | (simp only [go_sem, hE4, hE10, hE8, yl, b1, b3, f5, f4, f45, hp, g0, gk, s0, sk, t0, tk, tx, lt, lE, lE0]; done) | (simp only [go_sem, hE4, hE10, hE8, yl, b1, b3, f5, f4, f45, hp, g0, gk, s0, sk, t0, tk, tx, lt, lE, lE0]; rfl)) (by first | rfl | (simp only [go_sem, hE4, hE10, hE8, yl, b1, b3, f5, f4, f45, hp, g0, gk, s0, sk, t0, tk, tx, lt, lE, lE0]; done) | (simp only [go_sem, hE4, hE10, hE8, yl, b1, b3, f5, f4, f45, hp, g0, gk, s0, sk, t0, tk, tx, lt, lE, lE0]; rfl)) (fun _ _ => rfl) ?_ ?_ ?_
    · intro s2 h
      try dsimp only at h ⊢
      obtain ⟨v2, e_v2, h⟩ := ob h
      obtain ⟨e_v2a, e_v2b, e_v2d⟩ := cutM_some e_v2
      obtain ⟨v3, e_v3, h⟩ := ob h
      have e_v3a := (allM_some e_v3).1
      have e_v3b := (allM_some e_v3).2
      try simp only [Nat.zero_add] at e_v3a
      try simp only [List.drop_zero] at e_v3b
      obtain ⟨v4, e_v4, h⟩ := ob h
      have e_v4a := (appM_some e_v4).1
      have e_v4b : boundOk (v2 + 1) 24 = true := bnd_of (by have := (appM_some e_v4).2.1; simpa using this) (by decide)
      have e_v4c : List.map (rowA (rowL 3 row_repair_holes)) (List.take v2 o) ++ [[AV.p (.sl none 3 (List.map row_repair_holes v3))]] = List.map (rowA (rowL 3 row_repair_holes)) v4 := by rw [← (appM_some e_v4).2.2]; simp [rowA, rowL, row_repair_holes_eq]
      simp only [go_sem, e_v2a, e_v2b, e_v2d, e_v3a, e_v3b, e_v4b, e_v4a, e_v4c, hE4, hE10, hE8, yl, b1, b3, f5, f4, f45, hp, g0, gk, s0, sk, t0, tk, tx, lt, lE, lE0]
      injection h with h; subst h
      exact hK _ _
    · intro K2 s2 hb2 he2
      try dsimp only
      conv => arg 1; arg 7; unfold L13_4 loopAt S22.c13 Try.f13; simp only [loopIn, Option.getD_some, if_true]
      simp only [go_sem, he2, hE4, hE10, hE8, yl, b1, b3, f5, f4, f45, hp, g0, gk, s0, sk, t0, tk, tx, lt, lE, lE0]
      exact hb2
    · intro K2 k2 i2 x2 s2 n2 hR2 hE2 hb2 hx2 hi2 hw2 ih2 h
      try dsimp only at h ⊢
      conv => arg 1; arg 7; unfold L13_4 loopAt S22.c13 Try.f13; simp only [loopIn, Option.getD_some, if_true]
      obtain ⟨v5, e_v5, h⟩ := ob h
      obtain ⟨e_v5a, e_v5b, e_v5d⟩ := cutM_some e_v5
      obtain ⟨v6, e_v6, h⟩ := ob h
      have e_v6c : call Try.prog T H (.fn 39) [.p (.agg [iv x2.Sym, .sl none 1 (List.map rowI x2.From), iv x2.To]), .p (.agg [iv u.Sym, .sl none 2 (List.map row_Tree u.Kids)]), .ms 0 g 1 v5 (l - v5)] [.arr g 1 (List.map (rowA (rowL 3 row_repair_holes)) o)] = some (.ret (.p (.tup [.agg [bv v6.1.ok, iv v6.1.gone, .sl none 1 (List.map (rowL 1 rowI) v6.1.list)], bv v6.2])), [.arr g 1 (List.map (rowA (rowL 3 row_repair_holes)) o)]) := spec39_xxq g x2 u o (l - v5) v5 v6 e_v6
      by_cases c1 : v6.2 = true
      · have h := iteT h c1
        obtain ⟨v7, e_v7, h⟩ := ob h
        obtain ⟨e_v7a, e_v7b, e_v7d⟩ := idxM_some e_v7
        obtain ⟨v8, e_v8, h⟩ := ob h
        have e_v8c : call Try.prog T H (.fn 40) [.p (.agg [bv v6.1.ok, iv v6.1.gone, .sl none 1 (List.map (rowL 1 rowI) v6.1.list)]), .p (.agg [bv v7.ok, iv v7.gone, .sl none 1 (List.map (rowL 1 rowI) v7.list)])] [] = some (.ret (.p (bv v8)), []) := spec40 v6.1 v7 v8 e_v8
        by_cases c2 : v8 = true
        · have h := iteT h c2
          have e_y1 : List.set (List.map (rowA row_repair_holes) s2) ((x2.To).toNat) [.p (bv v6.1.ok), .p (iv v6.1.gone), .p (.sl none 1 (List.map (rowL 1 rowI) v6.1.list))] = List.map (rowA row_repair_holes) (List.set s2 ((x2.To).toNat) v6.1) := map_set' (by first | rfl | simp only [go_sem, List.map_cons, List.map_nil])
          simp only [go_sem, hx2, hi2, hw2, e_v5a, e_v5b, e_v5d, e_v6c, c1, e_v7a, e_v7b, e_v7d, e_v8c, c2, e_y1, hR2, hE2, hE4, hE10, hE8, yl, b1, b3, f5, f4, f45, hp, g0, gk, s0, sk, t0, tk, tx, lt, lE, lE0]
          exact ih2 (List.set s2 ((x2.To).toNat) v6.1) h
        · have h := iteF h c2
          have c2 := eq_false_of_ne_true c2
          simp only [go_sem, hx2, hi2, hw2, e_v5a, e_v5b, e_v5d, e_v6c, c1, e_v7a, e_v7b, e_v7d, e_v8c, c2, hR2, hE2, hE4, hE10, hE8, yl, b1, b3, f5, f4, f45, hp, g0, gk, s0, sk, t0, tk, tx, lt, lE, lE0]
          exact ih2 s2 h
      · have h := iteF h c1
        have c1 := eq_false_of_ne_true c1
        simp only [go_sem, hx2, hi2, hw2, e_v5a, e_v5b, e_v5d, e_v6c, c1, hR2, hE2, hE4, hE10, hE8, yl, b1, b3, f5, f4, f45, hp, g0, gk, s0, sk, t0, tk, tx, lt, lE, lE0]
        exact ih2 s2 h
  · intro K1 i1 s1 hb1 he1
    try dsimp only
    conv => arg 1; arg 7; unfold L13_2 loopAt S22.c13 Try.f13; simp only [loopIn, Option.getD_some, if_true]
    simp only [go_sem, he1, hE4, hE10, hE8, yl, b1, b3, f5, f4, f45, hp, g0, gk, s0, sk, t0, tk, tx, lt, lE, lE0]
    exact hb1
  · intro K1 k1 i1 s1 n1 hR1 hE1 hb1 hi1 hw1 ih1 h
    try dsimp only at h ⊢
    conv => arg 1; arg 7; unfold L13_2 loopAt S22.c13 Try.f13; simp only [loopIn, Option.getD_some, if_true]
    obtain ⟨v9, e_v9, h⟩ := ob h
    obtain ⟨v10, e_v10, h⟩ := ob h
    have e_v10c : call Try.prog T H (.fn 38) [.p (.agg [iv u.Sym, .sl none 2 (List.map row_Tree u.Kids)])] [] = some (.ret (.p (iv v10)), []) := spec38 n u v10 e_v10
    obtain ⟨v11, e_v11, h⟩ := ob h
    obtain ⟨e_v11a, e_v11b, e_v11d⟩ := idxM_some e_v11
    simp only [Int.toNat_natCast] at e_v11b
    simp only [Int.toNat_natCast] at e_v11d
    have e_y2 : List.set (List.map (rowA row_repair_holes) s1) i1 [.p (bv (decide (0 < v9))), .p (iv v10), .p (.sl none 1 [[.sl none 1 []]])] = List.map (rowA row_repair_holes) (List.set s1 i1 (repair_holes.mk (decide (0 < v9)) v10 [([] : List Int)])) := map_set' (by first | rfl | simp only [go_sem, List.map_cons, List.map_nil])
    simp only [go_sem, hi1, hw1, e_v9, e_v10c, e_v11b, e_v11d, e_y2, hR1, hE1, hE4, hE10, hE8, yl, b1, b3, f5, f4, f45, hp, g0, gk, s0, sk, t0, tk, tx, lt, lE, lE0]
    exact ih1 (List.set s1 i1 (repair_holes.mk (decide (0 < v9)) v10 [([] : List Int)])) h
end Hol
end Go.AM.S22

namespace Go.AM.S22
set_option maxRecDepth 100000
set_option maxHeartbeats 4000000
set_option linter.unusedVariables false
namespace Hol
open Go Go.Proofs Go.AM
def stp (n : Nat) (a : Automaton) (z : List Int) (u : Tree) : PS → Option PS
  | none => (holRow0 n a z u).bind fun r => some (some (1, r.1, r.2))
  | some (g, o, l) => (holRow n a z u o l).bind fun r => some (some (g + 1, r.1, r.2))
structure WF (E : Env) (a : Automaton) (z : List Int) (σ : List AObj) : Prop where
  len : 11 ≤ σ.length
  o1 : σ[1]? = some (.cells [.p (iv a.States), .p (.sl none 1 (List.map rowI a.Final)), .p (.sl none 3 (List.map row_Rule a.Rules))])
  o3 : σ[3]? = some (.cells [.p (.sl none 1 (List.map rowI z))])
  o7 : σ[7]? = some (.loop 0 none 140 13 E [45, 46] A13_0 B13_0)
  o8 : σ[8]? = some (.cells [.yld 7])
  o10 : σ[10]? = some (.cells [.fn 65 [.ptr 10 0, .ptr 9 0, .ptr 8 0]])
def wS (σ : List AObj) (s : PS × Int) : List AObj := yS (σ.set 9 (.cells [.p (iv s.2)])) s.1
theorem wS_len (σ : List AObj) (s : PS × Int) : (wS σ s).length = σ.length := by unfold wS; rw [yS_len, List.length_set]
theorem wS_get (σ : List AObj) (s : PS × Int) {i : Nat} (h : i ≠ 4 ∧ i ≠ 5 ∧ i ≠ 9) : (wS σ s)[i]? = σ[i]? := by
  unfold wS; rw [yS_get _ _ ⟨h.1, h.2.1⟩, List.getElem?_set_ne (by omega)]
theorem wS_9 {σ : List AObj} (s : PS × Int) (h : 11 ≤ σ.length) : (wS σ s)[9]? = some (.cells [.p (iv s.2)]) := by
  unfold wS; rw [yS_get _ _ (by decide), List.getElem?_set_self (by omega)]
theorem wS_set9 (σ : List AObj) (s : PS × Int) (m : Int) : (wS σ s).set 9 (.cells [.p (iv m)]) = wS σ (s.1, m) := by
  unfold wS yS
  simp only []
  rw [List.set_comm _ _ (by decide : 5 ≠ 9), List.set_comm _ _ (by decide : 4 ≠ 9), List.set_set]
theorem wS_app {σ : List AObj} (s : PS × Int) (h : 11 ≤ σ.length) (l : List AObj) : wS σ s ++ l = wS (σ ++ l) s := by
  unfold wS
  rw [yS_app _ (by simp; omega), List.set_append_left _ _ (by omega)]
theorem WF.app {E : Env} {a : Automaton} {z : List Int} {σ : List AObj} (h : WF E a z σ) (l : List AObj) : WF E a z (σ ++ l) where
  len := by rw [List.length_append]; have := h.len; omega
  o1 := by rw [List.getElem?_append_left (by have := h.len; omega)]; exact h.o1
  o3 := by rw [List.getElem?_append_left (by have := h.len; omega)]; exact h.o3
  o7 := by rw [List.getElem?_append_left (by have := h.len; omega)]; exact h.o7
  o8 := by rw [List.getElem?_append_left (by have := h.len; omega)]; exact h.o8
  o10 := by rw [List.getElem?_append_left (by have := h.len; omega)]; exact h.o10
theorem set_back {α : Type} {l : List α} {i : Nat} {a : α} (h : l[i]? = some a) : l.set i a = l := by
  apply List.ext_getElem?
  intro j
  by_cases e : i = j
  · subst e
    have := (List.getElem?_eq_some_iff.mp h).1
    rw [List.getElem?_set_self this, h]
  · rw [List.getElem?_set_ne e]
theorem yld_spec {E : Env} (hE4 : get E 4 = .ptr 1 0) (hE10 : get E 10 = .ptr 5 0) (hE8 : get E 8 = .ptr 3 0) (hEl : ∀ t, ltV 7 (get E t) = true) (n : Nat) (a : Automaton) (z : List Int) {σ : List AObj} (w : WF E a z σ) (u : Tree) (s : PS × Int) (p : PS) (h : stp n a z u s.1 = some p) (i : Int) (l : List AObj) :
    call Try.prog T H (.yld 7) [.p (iv i), .p (.agg [iv u.Sym, .sl none 2 (List.map row_Tree u.Kids)])] (wS σ s ++ l) = some (.ret (.p (bv true)), wS σ (p, s.2) ++ l) := by
  refine Sat.fn fun Q hQ => ?_
  have hl := w.len
  have e1 : ∀ q : PS, wS σ (q, s.2) ++ l = yS (σ.set 9 (.cells [.p (iv s.2)]) ++ l) q := fun q => by unfold wS; rw [yS_app _ (by simp; omega)]
  have e1s : wS σ s ++ l = yS (σ.set 9 (.cells [.p (iv s.2)]) ++ l) s.1 := e1 s.1
  rw [e1s]
  rw [e1 p] at hQ
  have r7 : (σ.set 9 (.cells [.p (iv s.2)]) ++ l)[7]? = some (.loop 0 none 140 13 E [45, 46] A13_0 B13_0) := by rw [List.getElem?_append_left (by simp; omega), List.getElem?_set_ne (by decide)]; exact w.o7
  have r1 : (σ.set 9 (.cells [.p (iv s.2)]) ++ l)[1]? = some (.cells [.p (iv a.States), .p (.sl none 1 (List.map rowI a.Final)), .p (.sl none 3 (List.map row_Rule a.Rules))]) := by rw [List.getElem?_append_left (by simp; omega), List.getElem?_set_ne (by decide)]; exact w.o1
  have r3 : (σ.set 9 (.cells [.p (iv s.2)]) ++ l)[3]? = some (.cells [.p (.sl none 1 (List.map rowI z))]) := by rw [List.getElem?_append_left (by simp; omega), List.getElem?_set_ne (by decide)]; exact w.o3
  have rl : 8 ≤ (σ.set 9 (.cells [.p (iv s.2)]) ++ l).length := by simp; omega
  generalize σ.set 9 (.cells [.p (iv s.2)]) ++ l = ρ at r7 r1 r3 rl hQ ⊢
  have y7 : ∀ q, (yS ρ q)[7]? = some (.loop 0 none 140 13 E [45, 46] A13_0 B13_0) := fun q => by rw [yS_get _ _ (by decide)]; exact r7
  have a7 : ∀ q k, (yS ρ q ++ k)[7]? = some (.loop 0 none 140 13 E [45, 46] A13_0 B13_0) := fun q k => by rw [List.getElem?_append_left (by rw [yS_len]; omega)]; exact y7 q
  have s7 : ∀ q k, (yS ρ q ++ k).set 7 (.loop 1 none 140 13 E [45, 46] A13_0 B13_0) = yS (ρ.set 7 (.loop 1 none 140 13 E [45, 46] A13_0 B13_0)) q ++ k := fun q k => by
    rw [List.set_append_left _ _ (by rw [yS_len]; omega)]
    unfold yS
    rw [List.set_comm _ _ (by decide : 5 ≠ 7), List.set_comm _ _ (by decide : 4 ≠ 7)]
  have b7 : ∀ q k, (yS (ρ.set 7 (.loop 1 none 140 13 E [45, 46] A13_0 B13_0)) q ++ k)[7]? = some (.loop 1 none 140 13 E [45, 46] A13_0 B13_0) := fun q k => by
    rw [List.getElem?_append_left (by rw [yS_len, List.length_set]; omega), yS_get _ _ (by decide), List.getElem?_set_self (by omega)]
  have c7 : ∀ q k, (yS (ρ.set 7 (.loop 1 none 140 13 E [45, 46] A13_0 B13_0)) q ++ k).set 7 (.loop 0 none 140 13 E [45, 46] A13_0 B13_0) = yS ρ q ++ k := fun q k => by
    rw [List.set_append_left _ _ (by rw [yS_len, List.length_set]; omega)]
    unfold yS
    rw [List.set_comm _ _ (by decide : 5 ≠ 7), List.set_comm _ _ (by decide : 4 ≠ 7), List.set_set, set_back r7]
  have t7 : ∀ q k, (yS ρ q ++ k).take ρ.length = yS ρ q := fun q k => by
    rw [← yS_len ρ q, List.take_left']; rfl
  have g0 : ∀ s l, (yS ρ s ++ l)[ρ.length]? = l[0]? := fun s l => sA0 (yS_len ρ s)
  have s0 : ∀ s l y, (yS ρ s ++ l).set ρ.length y = yS ρ s ++ l.set 0 y := fun s l y => sS0 (yS_len ρ s)
  rw [call_yld (h := y7 s.1) (hok := yo13_0) (hl := rfl)]
  conv => arg 1; arg 7; unfold A13_0 rangeA S22.c13 Try.f13; simp only [rangeIn, Option.getD_some, if_true]
  simp only [go_sem, asgK, setSt, Option.getD_none, yS_len, g0, s0, a7, s7]
  have lens : (ρ.set 7 (.loop 1 none 140 13 E [45, 46] A13_0 B13_0)).length = ρ.length := List.length_set ..
  have fin : ∀ (q : PS) (env : Env) (loc : List AObj), p = q → Sat (yldK 7 ρ.length (.normal, ⟨env, yS (ρ.set 7 (.loop 1 none 140 13 E [45, 46] A13_0 B13_0)) q ++ loc, [], none, false⟩)) Q := fun q env loc e => by
    subst e
    rw [yldK_normal 7 ρ.length _ (setSt_eq (b7 p loc))]
    simp only [Option.getD_some, c7, t7]
    exact Sat.ok hQ
  rcases hs : s.1 with _ | ⟨g, o, m⟩
  · rw [hs] at h
    obtain ⟨r, e_r, h⟩ := ob h
    injection h with h
    have q := holRow0_spec hE4 hE10 hE8 hEl (σ := ρ.set 7 (.loop 1 none 140 13 E [45, 46] A13_0 B13_0)) (by rw [lens]; exact rl) n a z u (by rw [List.getElem?_set_ne (by decide)]; exact r1) (by rw [List.getElem?_set_ne (by decide)]; exact r3) r e_r i (yldK 7 ρ.length) Q (fun env loc => fin _ env loc h.symm)
    rw [lens] at q
    exact q
  · rw [hs] at h
    obtain ⟨r, e_r, h⟩ := ob h
    injection h with h
    have q := holRow_spec hE4 hE10 hE8 hEl (σ := ρ.set 7 (.loop 1 none 140 13 E [45, 46] A13_0 B13_0)) (by rw [lens]; exact rl) n a z u g o m (by rw [List.getElem?_set_ne (by decide)]; exact r1) (by rw [List.getElem?_set_ne (by decide)]; exact r3) r e_r i (yldK 7 ρ.length) Q (fun env loc => fin _ env loc h.symm)
    rw [lens] at q
    exact q
def walk (n : Nat) (a : Automaton) (z : List Int) : Nat → Tree → PS × Int → Option (PS × Int)
  | 0, _, _ => none
  | k + 1, t, s =>
    rangeL t.Kids s (fun _ _ x1 s1 n1 => (walk n a z k x1 s1).bind fun v => n1 v) fun s1 =>
    (stp n a z t s1.1).bind fun p => some (p, w64 (s1.2 + 1))
theorem spec65 {E : Env} (hE4 : get E 4 = .ptr 1 0) (hE10 : get E 10 = .ptr 5 0) (hE8 : get E 8 = .ptr 3 0) (hEl : ∀ t, ltV 7 (get E t) = true) (n : Nat) (a : Automaton) (z : List Int) : ∀ (k : Nat) (σ : List AObj) (w : WF E a z σ) (t : Tree) (s r : PS × Int), walk n a z k t s = some r →
    call Try.prog T H (.fn 65) [.p (.agg [iv t.Sym, .sl none 2 (List.map row_Tree t.Kids)]), .ptr 10 0, .ptr 9 0, .ptr 8 0] (wS σ s) = some (.ret (.p (bv true)), wS σ r) := by
  intro k
  induction k with
  | zero => intro σ w t s r h; cases h
  | succ k ih =>
    intro σ w t s r h
    refine Sat.fn fun Q hQ => ?_
    rw [walk] at h
    have hl := w.len
    have b9n : ∀ s, (wS σ s)[9]? = some (.cells [.p (iv s.2)]) := fun s => wS_9 _ hl
    have b9 : ∀ s l, (wS σ s ++ l)[9]? = some (.cells [.p (iv s.2)]) := fun s l => by rw [List.getElem?_append_left (by rw [wS_len]; omega), wS_9 _ hl]
    have b8 : ∀ s l, (wS σ s ++ l)[8]? = some (.cells [.yld 7]) := fun s l => by rw [List.getElem?_append_left (by rw [wS_len]; omega), wS_get _ _ (by decide), w.o8]
    have b10 : ∀ s l, (wS σ s ++ l)[10]? = some (.cells [.fn 65 [.ptr 10 0, .ptr 9 0, .ptr 8 0]]) := fun s l => by rw [List.getElem?_append_left (by rw [wS_len]; omega), wS_get _ _ (by decide), w.o10]
    have bs9 : ∀ s l m, (wS σ s ++ l).set 9 (.cells [.p (iv m)]) = wS σ (s.1, m) ++ l := fun s l m => by rw [List.set_append_left _ _ (by rw [wS_len]; omega), wS_set9]
    have g0 : ∀ s l, (wS σ s ++ l)[σ.length]? = l[0]? := fun s l => sA0 (wS_len σ s)
    have gk : ∀ s l k, (wS σ s ++ l)[σ.length + k]? = l[k]? := fun s l k => sAK (wS_len σ s)
    have s0 : ∀ s l y, (wS σ s ++ l).set σ.length y = wS σ s ++ l.set 0 y := fun s l y => sS0 (wS_len σ s)
    have sk : ∀ s l y k, (wS σ s ++ l).set (σ.length + k) y = wS σ s ++ l.set k y := fun s l y k => sSK (wS_len σ s)
    have t0 : ∀ s l, (wS σ s ++ l).take σ.length = wS σ s := fun s l => sT0 (wS_len σ s)
    have tk : ∀ s l k, (wS σ s ++ l).take (σ.length + k) = wS σ s ++ l.take k := fun s l k => sTK (wS_len σ s)
    have tx : ∀ s, (wS σ s).take σ.length = wS σ s := fun s => sTX (wS_len σ s)
    have l10 : ∀ k, 10 < σ.length + k ∧ 9 < σ.length + k ∧ 8 < σ.length + k := fun k => by omega
    rw [call65]
    conv => arg 1; arg 7; unfold S22.c65 Try.f65; simp only [Option.getD_some]
    simp only [go_sem, wS_len, b9, b9n, b8, b10, bs9, g0, gk, s0, sk, t0, tk, tx]
    refine run_rangeL (c := L65_0) (live := [1, 2, 3, 4, 9, 10, 11]) (by simp only [go_sem]) (M := fun i1 (s1 : PS × Int) => [(1, .ptr 10 0), (2, .ptr 9 0), (3, .ptr 8 0), (4, .ptr σ.length 0), (9, .p (.sl none 2 (List.map row_Tree t.Kids))), (10, .p (iv (t.Kids.length : Int))), (11, .p (iv (i1 : Int)))]) (Z := fun i1 s1 => wS σ s1 ++ [.cells [.p (iv t.Sym), .p (.sl none 2 (List.map row_Tree t.Kids))]]) (N := fun s1 => ⟨[(2, .ptr 9 0), (3, .ptr 8 0), (4, .ptr σ.length 0)], wS σ s1 ++ [.cells [.p (iv t.Sym), .p (.sl none 2 (List.map row_Tree t.Kids))]], [], none, false⟩) h rfl rfl (fun _ _ => rfl) ?_ ?_ ?_
    · intro s1 h
      try dsimp only at h ⊢
      obtain ⟨p, e_p, h⟩ := ob h
      injection h with h; subst h
      have yy : ∀ i l, call Try.prog T H (.yld 7) [.p (iv i), .p (.agg [iv t.Sym, .sl none 2 (List.map row_Tree t.Kids)])] (wS σ (s1.1, w64 (s1.2 + 1)) ++ l) = some (.ret (.p (bv true)), wS σ (p, w64 (s1.2 + 1)) ++ l) := fun i l => yld_spec hE4 hE10 hE8 hEl n a z w t (s1.1, w64 (s1.2 + 1)) p e_p i l
      simp only [go_sem, wS_len, b9, b9n, b8, b10, bs9, g0, gk, s0, sk, t0, tk, tx, yy]
      exact Sat.ok hQ
    · intro K1 s1 hb1 he1
      try dsimp only
      conv => arg 1; arg 7; unfold L65_0 loopAt S22.c65 Try.f65; simp only [loopIn, Option.getD_some, if_true]
      simp only [go_sem, he1, wS_len, b9, b9n, b8, b10, bs9, g0, gk, s0, sk, t0, tk, tx, l10]
      exact hb1
    · intro K1 k1 i1 x1 s1 n1 hR1 hE1 hb1 hx1 hi1 hw1 ih1 h
      try dsimp only at h ⊢
      conv => arg 1; arg 7; unfold L65_0 loopAt S22.c65 Try.f65; simp only [loopIn, Option.getD_some, if_true]
      obtain ⟨v2, e_v2, h⟩ := ob h
      have e_v2c : ∀ l, call Try.prog T H (.fn 65) [.p (.agg [iv x1.Sym, .sl none 2 (List.map row_Tree x1.Kids)]), .ptr 10 0, .ptr 9 0, .ptr 8 0] (wS σ s1 ++ l) = some (.ret (.p (bv true)), wS σ v2 ++ l) := fun l => by
        have q := ih (σ ++ l) (w.app l) x1 s1 v2 e_v2
        rw [← wS_app _ hl, ← wS_app _ hl] at q
        exact q
      simp only [go_sem, hx1, hi1, hw1, e_v2c, hR1, hE1, wS_len, b9, b9n, b8, b10, bs9, g0, gk, s0, sk, t0, tk, tx, l10]
      exact ih1 v2 h
end Hol
end Go.AM.S22

namespace Go.AM.S22
open Go Go.Proofs Go.AM
set_option linter.unusedVariables false
set_option maxRecDepth 100000
def toH (t : Tree) (c : ref22_cut) : repair_holes := if c.some = true then ⟨true, c.nodes, c.l⟩ else ⟨false, tsT t, [[]]⟩
theorem toH_get (t : Tree) (row : List ref22_cut) (i : Nat) (h : i < row.length) : (row.map (toH t))[i]? = some (toH t ((row[i]?).getD zh)) := by
  rw [List.getElem?_map, List.getElem?_eq_getElem h]; rfl
theorem hprog_inner {m : Nat} {R : Type} (G : Nat → Option (List repair_holes)) (F : Option R) : ∀ (ks : List (List ref22_cut)) (kl : List Tree) (xs : List Int) (p : Nat) (b : Int) (l : List (List Int)) (k : Int × List (List Int) → Option R), HK m ks kl → (∀ i r t, ks[i]? = some r → kl[i]? = some t → G (p + i) = some (r.map (toH t))) → xs.length = ks.length → (∀ x ∈ xs, 0 ≤ x ∧ x < (m : Int)) →
    0 ≤ b → b + tsL kl ≤ 1000 → l.length + tsL kl ≤ 1000 → tdL kl ≤ 1000 →
    rangeC (fun i3 (x3 : Int) (s3 : Int × (List (List Int))) n3 =>
      (G i3).bind fun v1 =>
      (idx v1 x3).bind fun v2 =>
      if v2.ok = true then
        rangeL v2.list s3.2 (fun k4 i4 x4 (s4 : (List (List Int))) n4 =>
          (app 8 [(i3 : Int)] x4).bind fun v3 =>
          (app 24 s4 [v3]).bind fun v4 =>
          n4 v4) fun s4 =>
        n3 (w64 (s3.1 + v2.gone), s4)
      else F) xs p (b, l) k = if (hf p ks xs (true, b, l)).1 = true then k ((hf p ks xs (true, b, l)).2.1, (hf p ks xs (true, b, l)).2.2) else F
  | [], [], [], p, b, l, k, _, _, _, _, _, _, _, _ => by
    have : hf p [] [] (true, b, l) = (true, b, l) := by rw [hf]; exact fun _ _ _ _ h => by cases h
    rw [rangeC, this]; rfl
  | _ :: _, [], _, _, _, _, _, h, _, _, _, _, _, _, _ => h.elim
  | [], _ :: _, _, _, _, _, _, h, _, _, _, _, _, _, _ => h.elim
  | [], [], _ :: _, _, _, _, _, _, _, h, _, _, _, _, _ => by simp at h
  | _ :: _, _ :: _, [], _, _, _, _, _, _, h, _, _, _, _, _ => by simp at h
  | r :: ks, t :: kl, x :: xs, p, b, l, k, hg, hr, hl, hx, h0, h1, h2, h3 => by
    have hp := hr 0 r t rfl rfl
    rw [Nat.add_zero] at hp
    have hxx := hx x (by simp)
    have hc := hg.1.get x.toNat
    have c0 := hc.n0; have c1 := hc.n1; have c2 := hc.ll; have c3 := hc.pl
    rw [tsL] at h1 h2
    rw [tdL] at h3
    rw [rangeC, hp]
    simp only [Option.bind_some]
    have hidx : idx (r.map (toH t)) x = some (toH t ((r[x.toNat]?).getD zh)) := by
      unfold idx
      rw [if_pos hxx.1, toH_get _ _ _ (by rw [hg.1.1]; omega)]
    rw [hidx]
    simp only [Option.bind_some]
    rw [hf]
    by_cases e : ((r[x.toNat]?).getD zh).some = true
    · have e1 : toH t ((r[x.toNat]?).getD zh) = ⟨true, ((r[x.toNat]?).getD zh).nodes, ((r[x.toNat]?).getD zh).l⟩ := if_pos e
      rw [e1]
      have hpl : ∀ q ∈ ((r[x.toNat]?).getD zh).l, q.length ≤ 1000 := fun q hq => by have := c3 q hq; omega
      have hl2 : (addP p ((r[x.toNat]?).getD zh).l).length = ((r[x.toNat]?).getD zh).l.length := by unfold addP; rw [List.length_map]
      rw [if_pos rfl, rangeL]
      simp only []
      rw [if_pos (by omega), pre_eq p _ _ 0 _ hpl (by omega), w64_eq (by omega) (by omega), e, Bool.and_true]
      exact hprog_inner G F ks kl xs (p + 1) (b + ((r[x.toNat]?).getD zh).nodes) (l ++ addP p ((r[x.toNat]?).getD zh).l) k hg.2 (fun i r' t' hi ht => by have := hr (i + 1) r' t' (by simpa using hi) (by simpa using ht); rwa [show p + (i + 1) = p + 1 + i by omega] at this) (by simpa using hl) (fun y hy => hx y (List.mem_cons_of_mem _ hy)) (by omega) (by omega) (by simp only [List.length_append, hl2]; omega) (by omega)
    · have e := eq_false_of_ne_true e
      have e1 : toH t ((r[x.toNat]?).getD zh) = ⟨false, tsT t, [[]]⟩ := if_neg (by rw [e]; decide)
      rw [e1, if_neg (by simp), if_neg]
      rw [hf_false]
      · simp
      · simp only [e, Bool.and_false]
def hz0 : repair_holes := ⟨false, 0, []⟩
def withP (ks : List (List ref22_cut)) (x : Rule) (sym : Int) : repair_holes × Bool :=
  if x.Sym = sym then
    (if (hf 0 ks x.From (true, 0, [])).1 = true then (⟨true, (hf 0 ks x.From (true, 0, [])).2.1, (hf 0 ks x.From (true, 0, [])).2.2⟩, true) else (hz0, false))
  else (hz0, false)
theorem within_eq {m : Nat} {ks : List (List ref22_cut)} {u : Tree} {x : Rule} {o : List (List repair_holes)} {off : Nat} (hg : HK m ks u.Kids) (hs : tsT u ≤ 80) (hlen : x.Sym = u.Sym → x.From.length = ks.length) (ho : ∀ i r t, ks[i]? = some r → u.Kids[i]? = some t → o[off + i]? = some (r.map (toH t))) (hf : x.From.length ≤ 30) (hx : ∀ s ∈ x.From, 0 ≤ s ∧ s < (m : Int)) :
    repair_within_xxq x u o ks.length off = some (withP ks x u.Sym) := by
  have hkl := tlen u.Kids
  have hts := tsT_eq u
  have htd := tdT_eq u
  have htl := td_le u
  have hln := hg.len
  have hG : ∀ i r t, ks[i]? = some r → u.Kids[i]? = some t → idxS off ks.length o ((0 + i : Nat) : Int) = some (r.map (toH t)) := fun i r t hi ht => by
    have hlt := (List.getElem?_eq_some_iff.1 hi).1
    unfold idxS
    rw [if_pos (by omega), Int.toNat_natCast, Nat.zero_add]
    exact ho i r t hi ht
  unfold repair_within_xxq withP
  by_cases c1 : x.Sym = u.Sym
  · rw [if_pos c1, if_pos c1, rangeL, if_pos (by omega)]
    rw [hprog_inner (m := m) (fun i => idxS off ks.length o (i : Int)) _ ks u.Kids x.From 0 0 [] _ hg hG (hlen c1) hx (Int.le_refl _) (by omega) (by simp only [List.length_nil]; omega) (by omega)]
    split <;> rfl
  · rw [if_neg c1, if_neg c1]; rfl
theorem within0_eq {m : Nat} {u : Tree} {x : Rule} (hk : u.Kids = []) (hlen : x.Sym = u.Sym → x.From.length = 0) (hf : x.From.length ≤ 30) (hx : ∀ s ∈ x.From, 0 ≤ s ∧ s < (m : Int)) :
    repair_within x u [] = some (withP [] x u.Sym) := by
  have hg : HK m [] [] := trivial
  unfold repair_within withP
  by_cases c1 : x.Sym = u.Sym
  · rw [if_pos c1, if_pos c1, rangeL, if_pos (by omega)]
    rw [hprog_inner (m := m) (fun i => ([] : List (List repair_holes))[i]?) _ [] [] x.From 0 0 [] _ hg (fun i r t hi ht => by simp at hi) (hlen c1) hx (Int.le_refl _) (by rw [tsL]; omega) (by rw [tsL]; simp) (by rw [tdL]; omega)]
    split <;> rfl
  · rw [if_neg c1, if_neg c1]; rfl
theorem fewerH_eq {u t : Tree} {c d : ref22_cut} (hc : SmL c.l) : repair_fewer ⟨true, c.nodes, c.l⟩ (toH t d) = some (cutB c d) := by
  by_cases e : d.some = true
  · have e1 : toH t d = ⟨d.some, d.nodes, d.l⟩ := by unfold toH; rw [if_pos e, e]
    rw [e1]
    exact fewer_eq c d hc true
  · have e1 : toH t d = ⟨false, tsT t, [[]]⟩ := if_neg e
    rw [e1, show cutB c d = true by unfold cutB; rw [if_neg e]]
    exact (fewer_eq c ⟨false, tsT t, [[]]⟩ hc true).trans rfl
theorem hrow_loop {a : Automaton} (ha : OKa a) {u : Tree} {ks : List (List ref22_cut)} (hg : HK a.States.toNat ks u.Kids) (hs : tsT u ≤ 80) (X : Rule → Option (repair_holes × Bool)) (hX : ∀ x ∈ a.Rules, X x = some (withP ks x u.Sym)) {R : Type} :
    ∀ (l : List Rule) (i : Nat) (row : List ref22_cut) (k : List repair_holes → Option R), (∀ x ∈ l, x ∈ a.Rules) → HR a.States.toNat u row →
    rangeC (fun i2 x2 (s2 : (List repair_holes)) n2 => (X x2).bind fun v6 => if v6.2 = true then (idxM ((a.States).toNat) s2 x2.To).bind fun v7 => (repair_fewer v6.1 v7).bind fun v8 => if v8 = true then n2 (List.set s2 ((x2.To).toNat) v6.1) else n2 s2 else n2 s2) l i (row.map (toH u)) k = k ((l.foldl (stepH ks u.Sym) row).map (toH u))
  | [], i, row, k, _, _ => by rw [rangeC]; rfl
  | x :: l, i, row, k, hm, hr => by
    have hx := hm x (by simp)
    have hto := ha.to x hx
    have ih := hrow_loop ha hg hs X hX l (i + 1) (stepH ks u.Sym row x) k (fun y hy => hm y (List.mem_cons_of_mem _ hy)) (step_HR hg hr x)
    rw [rangeC, hX x hx, List.foldl_cons, ← ih]
    simp only [Option.bind_some]
    unfold stepH withP
    by_cases c1 : x.Sym = u.Sym
    · rw [if_pos c1, if_pos c1]
      by_cases c2 : (hf 0 ks x.From (true, 0, [])).1 = true
      · rw [if_pos c2, if_pos c2]
        simp only [if_true]
        have hrow : idxM a.States.toNat (row.map (toH u)) x.To = some (toH u ((row[x.To.toNat]?).getD zh)) := by
          unfold idxM
          rw [if_pos (by omega), toH_get _ _ _ (by rw [hr.1]; omega)]
        rw [hrow]
        simp only [Option.bind_some]
        have hb := fewerH_eq (u := u) (t := u) (c := mkH (hf 0 ks x.From (true, 0, []))) (d := (row[x.To.toNat]?).getD zh) (sml_hf hg hs x.From)
        have hmk : toH u (mkH (hf 0 ks x.From (true, 0, []))) = ⟨true, (hf 0 ks x.From (true, 0, [])).2.1, (hf 0 ks x.From (true, 0, [])).2.2⟩ := rfl
        have hb : repair_fewer ⟨true, (hf 0 ks x.From (true, 0, [])).2.1, (hf 0 ks x.From (true, 0, [])).2.2⟩ (toH u ((row[x.To.toNat]?).getD zh)) = _ := hb
        rw [hb]
        simp only [Option.bind_some]
        by_cases c3 : cutB (mkH (hf 0 ks x.From (true, 0, []))) ((row[x.To.toNat]?).getD zh) = true
        · rw [if_pos c3, if_pos c3, List.map_set, hmk]
        · rw [if_neg c3, if_neg c3]
      · rw [if_neg c2, if_neg c2]
        simp only [Bool.false_eq_true, if_false]
    · rw [if_neg c1, if_neg c1]
      simp only [Bool.false_eq_true, if_false]
theorem hmk_eq {a : Automaton} (ha : OKa a) : mkz 40 a.States a.States (repair_holes.mk false 0 ([] : List (List Int))) = some (List.replicate a.States.toNat hz0) := by
  have hst := ha.st
  unfold mkz hz0; rw [if_pos (by omega)]
theorem hini_eq {R : Type} {a : Automaton} (ha : OKa a) {z : List Int} (hz : z.length = a.States.toNat) {n : Nat} {u : Tree} (hd : tdT u < n) (hs : tsT u ≤ 80) (k : List repair_holes → Option R) : rangeI ((a.States).toNat : Int) (List.replicate a.States.toNat hz0) (fun k1 i1 (s1 : (List repair_holes)) n1 =>
    (z[i1]?).bind fun v9 =>
    (tree_Size n u).bind fun v10 =>
    (idxM ((a.States).toNat) s1 (i1 : Int)).bind fun v11 =>
    n1 (List.set s1 i1 (repair_holes.mk (decide (0 < v9)) v10 [([] : List Int)]))) k = k ((iniH (posV z) (tsT u)).map (toH u)) := by
  have hst := ha.st
  rw [rangeI, if_pos (by omega), Int.toNat_natCast]
  have hini := iniG (β := repair_holes) (f := fun v => ⟨decide (0 < v), (tsT u : Int), [[]]⟩) (z0 := hz0) hz (body := fun i1 (_ : Unit) (s1 : (List repair_holes)) n1 =>
    (z[i1]?).bind fun v9 =>
    (tree_Size n u).bind fun v10 =>
    (idxM ((a.States).toNat) s1 (i1 : Int)).bind fun v11 =>
    n1 (List.set s1 i1 (repair_holes.mk (decide (0 < v9)) v10 [([] : List Int)]))) (fun i s n1 v hv hl hs0 => by
          have hlt := (List.getElem?_eq_some_iff.1 hs0).1
          have : idxM a.States.toNat s (i : Int) = some hz0 := by unfold idxM; rw [if_pos (by omega), Int.toNat_natCast, hs0]
          rw [hv, Option.bind_some, tree_Size_eq n u hd (by omega), Option.bind_some, this]; rfl) k z [] rfl
  have hinie : z.map (fun v => (⟨decide (0 < v), (tsT u : Int), [[]]⟩ : repair_holes)) = (iniH (posV z) (tsT u)).map (toH u) := by
    unfold iniH posV
    rw [List.map_map, List.map_map]
    apply List.map_congr_left
    intro v _
    simp only [Function.comp_apply, decide_eq_true_eq]
    by_cases c : 0 < v
    · rw [if_pos c, decide_eq_true c]; rfl
    · rw [if_neg c, decide_eq_false c]; rfl
  rw [← hinie, ← hini, hz]
  rfl
theorem happ1_eq {base : Nat} {o : List (List repair_holes)} (row : List repair_holes) (hb : base ≤ 500) (hlo : base ≤ o.length) : appM 24 base o [row] = some (o.take base ++ [row]) := by
  unfold appM
  rw [if_pos (by simp only [List.length_cons, List.length_nil]; omega)]
def pT (a : Automaton) (zs : List Bool) (t : Tree) : List repair_holes := (cuT a zs t).map (toH t)
theorem hall_eq {a : Automaton} {zs : List Bool} (hz : zs.length = a.States.toNat) (u : Tree) : allM 0 a.States.toNat (pT a zs u) = some (pT a zs u) := by
  have hG := cuT_HR a hz u
  have hl : (pT a zs u).length = a.States.toNat := by unfold pT; rw [List.length_map, hG.1]
  unfold allM
  rw [if_pos (by omega), List.drop_zero, List.take_of_length_le (by omega)]
theorem hrows_eq {a : Automaton} (ha : OKa a) {zs : List Bool} (hz : zs.length = a.States.toNat) {u : Tree} (hs : tsT u ≤ 80) (X : Rule → Option (repair_holes × Bool)) (hX : ∀ x ∈ a.Rules, X x = some (withP (cuL a zs u.Kids) x u.Sym)) {R : Type} (k : List repair_holes → Option R) :
    rangeL a.Rules ((iniH zs (tsT u)).map (toH u)) (fun k2 i2 x2 (s2 : (List repair_holes)) n2 => (X x2).bind fun v6 => if v6.2 = true then (idxM ((a.States).toNat) s2 x2.To).bind fun v7 => (repair_fewer v6.1 v7).bind fun v8 => if v8 = true then n2 (List.set s2 ((x2.To).toNat) v6.1) else n2 s2 else n2 s2) k = k (pT a zs u) := by
  have hrl := ha.rul
  rw [rangeL, if_pos (by omega)]
  rw [hrow_loop ha (cuL_HK a hz u.Kids) hs X hX a.Rules 0 _ _ (fun _ h => h) (iniH_HR hz u)]
  unfold pT
  rw [cuT_eq]; rfl
open Hol in
theorem holRow_eq {r : List Int} {a : Automaton} (ha : OKa a) (hfit : Fit r a) {z : List Int} (hz : z.length = a.States.toNat) {n : Nat} {u : Tree} (hd : tdT u < n) (hs : tsT u ≤ 80) (hsh : shT r u = true) {o : List (List repair_holes)} {l base : Nat} (hl : l = base + u.Kids.length) (hlo : l ≤ o.length) (hb : base ≤ 500)
    (ho : ∀ i t, u.Kids[i]? = some t → o[base + i]? = some (pT a (posV z) t)) : holRow n a z u o l = some (o.take base ++ [pT a (posV z) u], base + 1) := by
  have hkl := tlen u.Kids
  have hts := tsT_eq u
  have hzp : (posV z).length = a.States.toNat := by unfold posV; rw [List.length_map, hz]
  have hKl := cuL_len a (posV z) u.Kids
  have hcut := cut_eq (k := u.Kids.length) hl hb (by omega)
  obtain ⟨hsk, _⟩ := sh_out hsh
  unfold holRow
  rw [hmk_eq ha, Option.bind_some, hini_eq ha hz hd hs]
  simp only [hcut, Option.bind_some]
  rw [hrows_eq ha hzp hs (fun x => repair_within_xxq x u o (l - base) base) (fun x hx => by
    rw [show l - base = (cuL a (posV z) u.Kids).length by omega]
    exact within_eq (cuL_HK a hzp u.Kids) hs (fun e => by have := hfit x hx; rw [e] at this; omega) (fun i r t hi ht => by
      rw [ho i t ht]
      rw [cuL_get a (posV z) u.Kids i t ht] at hi
      injection hi with hi
      rw [← hi]; rfl) (ha.frm x hx) (fun s hs => by have := ha.from' x hx s hs; omega))]
  rw [hall_eq hzp, Option.bind_some, happ1_eq _ hb (by omega), Option.bind_some]
open Hol in
theorem holRow0_eq {r : List Int} {a : Automaton} (ha : OKa a) (hfit : Fit r a) {z : List Int} (hz : z.length = a.States.toNat) {n : Nat} {u : Tree} (hd : tdT u < n) (hs : tsT u ≤ 80) (hsh : shT r u = true) (hk : u.Kids = []) : holRow0 n a z u = some ([pT a (posV z) u], 1) := by
  have hzp : (posV z).length = a.States.toNat := by unfold posV; rw [List.length_map, hz]
  have hc0 : cuL a (posV z) u.Kids = [] := by rw [hk, cuL]
  have hcut : cutM 0 (w64 (0 - (u.Kids.length : Int))) = some 0 := by rw [hk]; exact cut_eq (l := 0) (base := 0) (k := 0) rfl (by omega) (by omega)
  obtain ⟨hsk, _⟩ := sh_out hsh
  have hk0 : u.Kids.length = 0 := by rw [hk]; rfl
  unfold holRow0
  rw [hmk_eq ha, Option.bind_some, hini_eq ha hz hd hs]
  simp only [hcut, Option.bind_some]
  rw [hrows_eq ha hzp hs (fun x => repair_within x u []) (fun x hx => by
    rw [hc0]
    exact within0_eq (m := a.States.toNat) hk (fun e => by have := hfit x hx; rw [e] at this; omega) (ha.frm x hx) (fun s hs => by have := ha.from' x hx s hs; omega))]
  rw [hall_eq hzp, Option.bind_some, happ1_eq _ (by omega) (by simp), Option.bind_some]
  rfl
namespace Hol
def pl : PS → List (List repair_holes)
  | none => []
  | some (_, o, l) => o.take l
def pk : PS → Prop
  | none => True
  | some (_, o, l) => l ≤ o.length
theorem stp_eq {r : List Int} {a : Automaton} (ha : OKa a) (hfit : Fit r a) {z : List Int} (hz : z.length = a.States.toNat) {n : Nat} {u : Tree} (hd : tdT u < n) (hs : tsT u ≤ 80) (hsh : shT r u = true) {p : PS} (hp : pk p) {base : List (List repair_holes)} (hb : base.length ≤ 500) (he : pl p = base ++ u.Kids.map (pT a (posV z))) :
    ∃ q, stp n a z u p = some q ∧ pk q ∧ pl q = base ++ [pT a (posV z) u] := by
  rcases p with _ | ⟨g, o, l⟩
  · have h0 : base = [] ∧ u.Kids.map (pT a (posV z)) = [] := List.append_eq_nil_iff.1 he.symm
    have hk : u.Kids = [] := List.map_eq_nil_iff.1 h0.2
    unfold stp
    simp only []
    rw [holRow0_eq ha hfit hz hd hs hsh hk, h0.1]
    exact ⟨_, rfl, by simp [pk], by simp [pl]⟩
  · simp only [pk] at hp
    simp only [pl] at he
    have hlen := congrArg List.length he
    rw [List.length_take, List.length_append, List.length_map] at hlen
    have hl : l = base.length + u.Kids.length := by omega
    have ho : ∀ i t, u.Kids[i]? = some t → o[base.length + i]? = some (pT a (posV z) t) := fun i t hi => by
      have hlt := (List.getElem?_eq_some_iff.1 hi).1
      have h1 : (o.take l)[base.length + i]? = some (pT a (posV z) t) := by
        rw [he, List.getElem?_append_right (by omega), show base.length + i - base.length = i by omega, List.getElem?_map, hi]; rfl
      rw [List.getElem?_take, if_pos (by omega)] at h1
      exact h1
    unfold stp
    simp only []
    rw [holRow_eq ha hfit hz hd hs hsh hl hp hb ho]
    have htk : o.take base.length = base := by
      have : (o.take l).take base.length = base := by rw [he, List.take_left']; rfl
      rw [List.take_take, show min base.length l = base.length by omega] at this
      exact this
    refine ⟨_, rfl, ?_, ?_⟩
    · simp only [pk, List.length_append, List.length_take, List.length_cons, List.length_nil]; omega
    · simp only [pl]
      rw [htk, List.take_of_length_le (by simp)]
theorem walk_eq {r : List Int} {a : Automaton} (ha : OKa a) (hfit : Fit r a) {z : List Int} (hz : z.length = a.States.toNat) {n : Nat} : ∀ (k : Nat) (t : Tree) (p : PS) (m : Int), tdT t < k → tdT t < n → tsT t ≤ 80 → shT r t = true → pk p → (pl p).length + tsT t ≤ 500 →
    ∃ q m', walk n a z k t (p, m) = some (q, m') ∧ pk q ∧ pl q = pl p ++ [pT a (posV z) t] := by
  intro k
  induction k with
  | zero => intro t p m h; omega
  | succ k ih =>
    intro t p m hd hn hs hsh hp hb
    obtain ⟨hsk, hsl⟩ := sh_out hsh
    have hkl := tlen t.Kids
    have hts := tsT_eq t
    have htd := tdT_eq t
    rw [walk, rangeL, if_pos (by omega)]
    suffices H : ∀ (l : List Tree) (i : Nat) (p : PS) (m : Int) (K : PS × Int → Option (PS × Int)), (∀ x ∈ l, x ∈ t.Kids) → pk p → (pl p).length + tsL l ≤ 500 →
        ∃ q m', rangeC (fun (_ : Nat) x1 s1 n1 => (walk n a z k x1 s1).bind fun v => n1 v) l i (p, m) K = K (q, m') ∧ pk q ∧ pl q = pl p ++ l.map (pT a (posV z)) by
      obtain ⟨q, m', h1, h2, h3⟩ := H t.Kids 0 p m _ (fun _ h => h) hp (by omega)
      obtain ⟨q2, e1, e2, e3⟩ := stp_eq ha hfit hz hn hs hsh h2 (base := pl p) (by omega) h3
      rw [h1]
      simp only []
      rw [e1]
      exact ⟨q2, _, rfl, e2, e3⟩
    intro l
    induction l with
    | nil => intro i p m K _ hp _; exact ⟨p, m, by rw [rangeC], hp, by simp⟩
    | cons x l ihl =>
      intro i p m K hm hp hb
      have hx := td_mem (hm x (by simp))
      have hx2 := ts_mem (hm x (by simp))
      rw [tsL] at hb
      obtain ⟨q, m1, e1, e2, e3⟩ := ih x p m (by omega) (by omega) (by omega) (shL_mem hsl x (hm x (by simp))) hp (by omega)
      have hq : (pl q).length = (pl p).length + 1 := by rw [e3]; simp
      have hx3 := tsT_eq x
      obtain ⟨q2, m2, f1, f2, f3⟩ := ihl (i + 1) q m1 K (fun y hy => hm y (List.mem_cons_of_mem _ hy)) e2 (by omega)
      refine ⟨q2, m2, ?_, f2, ?_⟩
      · rw [rangeC, e1]; exact f1
      · rw [f3, e3]; simp
end Hol
end Go.AM.S22

namespace Go.AM.S22
open Go Go.Proofs Go.AM
set_option linter.unusedVariables false
theorem twL_all : ∀ {l : List Tree}, (∀ x, x ∈ l → twT x = true) → twL l = true
  | [], _ => by rw [twL]
  | x :: r, h => by rw [twL, h x (by simp), twL_all (fun y hy => h y (List.mem_cons_of_mem _ hy))]; rfl
theorem d3 : (T.at 3).d = .int .i64 := rfl
theorem d30 : (T.at 30).d = .st [(0, 3), (1, 28)] := rfl
theorem d28 : (T.at 28).d = .sl 30 := rfl
theorem d22 : (T.at 22).d = .sl 3 := rfl
theorem d24 : (T.at 24).d = .st [(0, 22)] := rfl
theorem d25 : (T.at 25).d = .sl 64 := rfl
theorem d27 : (T.at 27).d = .st [(0, 3), (1, 22), (2, 25)] := rfl
theorem d64 : (T.at 64).d = .st [(0, 3), (1, 22), (2, 3)] := rfl
theorem sz3 : (T.at 3).size = 1 := rfl
theorem sz28 : (T.at 28).size = 1 := rfl
theorem sz30 : (T.at 30).size = 2 := rfl
theorem sz22 : (T.at 22).size = 1 := rfl
theorem sz24 : (T.at 24).size = 1 := rfl
theorem sz25 : (T.at 25).size = 1 := rfl
theorem sz27 : (T.at 27).size = 3 := rfl
theorem sz64 : (T.at 64).size = 3 := rfl
theorem wt30 : ∀ (n : Nat) (cs : List PV), wt T n 30 cs → ∃ x : Tree, cs = row_Tree x ∧ twT x = true := by
  intro n
  induction n using Nat.strongRecOn with
  | _ n ih =>
    intro cs h
    obtain ⟨m, rfl, h1, h2⟩ := wt_st d30 h
    rw [sz30] at h1
    match cs, h1 with
    | [c0, c1], _ =>
      have f0 := h2 (0, 3) (by simp)
      have f1 := h2 (1, 28) (by simp)
      simp only [sz3, sz28, List.drop_zero, List.drop_succ_cons, List.take_succ_cons, List.take_zero] at f0 f1
      obtain ⟨i, e0, _⟩ := wt_int d3 f0
      obtain ⟨xs, e1, hl, hx⟩ := wt_slM (row := row_Tree) (P := fun x => twT x = true) d28 f1 (fun m' r hm hr => ih m' (by omega) r hr)
      injection e0 with e0; subst e0
      injection e1 with e1; subst e1
      refine ⟨⟨i, xs⟩, by rw [row_Tree_eq, sz30], ?_⟩
      rw [twT, decide_eq_true hl, twL_all hx]; rfl
theorem wt22 {n : Nat} {cs : List PV} (h : wt T n 22 cs) : ∃ r : List Int, cs = [.sl none 1 (r.map rowI)] ∧ r.length < 9223372036854775808 := by
  obtain ⟨xs, e, hl, _⟩ := wt_slM (row := rowI) (P := fun _ => True) d22 h (fun m' r _ hr => by
    obtain ⟨i, e, _⟩ := wt_int d3 hr
    exact ⟨i, e, trivial⟩)
  rw [sz3] at e
  exact ⟨xs, e, hl⟩
theorem wt24 {n : Nat} {cs : List PV} (h : wt T n 24 cs) : ∃ r : List Int, cs = [.sl none 1 (r.map rowI)] := by
  obtain ⟨m, rfl, h1, h2⟩ := wt_st d24 h
  rw [sz24] at h1
  match cs, h1 with
  | [c0], _ =>
    have f0 := h2 (0, 22) (by simp)
    simp only [sz22, List.drop_zero, List.take_succ_cons, List.take_zero] at f0
    obtain ⟨r, e, _⟩ := wt22 f0
    exact ⟨r, e⟩
theorem wt64 {n : Nat} {cs : List PV} (h : wt T n 64 cs) : ∃ x : Rule, cs = row_Rule x ∧ x.From.length < 9223372036854775808 := by
  obtain ⟨m, rfl, h1, h2⟩ := wt_st d64 h
  rw [sz64] at h1
  match cs, h1 with
  | [c0, c1, c2], _ =>
    have f0 := h2 (0, 3) (by simp)
    have f1 := h2 (1, 22) (by simp)
    have f2 := h2 (2, 3) (by simp)
    simp only [sz3, sz22, List.drop_zero, List.drop_succ_cons, List.take_succ_cons, List.take_zero] at f0 f1 f2
    obtain ⟨i, e0, _⟩ := wt_int d3 f0
    obtain ⟨xs, e1, hl⟩ := wt22 f1
    obtain ⟨j, e2, _⟩ := wt_int d3 f2
    injection e0 with e0; subst e0
    injection e1 with e1; subst e1
    injection e2 with e2; subst e2
    exact ⟨⟨i, xs, j⟩, rfl, hl⟩
theorem wt27 {n : Nat} {cs : List PV} (h : wt T n 27 cs) : ∃ a : Automaton, cs = row_Automaton a ∧ AW a := by
  obtain ⟨m, rfl, h1, h2⟩ := wt_st d27 h
  rw [sz27] at h1
  match cs, h1 with
  | [c0, c1, c2], _ =>
    have f0 := h2 (0, 3) (by simp)
    have f1 := h2 (1, 22) (by simp)
    have f2 := h2 (2, 25) (by simp)
    simp only [sz3, sz22, sz25, List.drop_zero, List.drop_succ_cons, List.take_succ_cons, List.take_zero] at f0 f1 f2
    obtain ⟨i, e0, _⟩ := wt_int d3 f0
    obtain ⟨xs, e1, hl⟩ := wt22 f1
    obtain ⟨rs, e2, hl2, hx⟩ := wt_slM (row := row_Rule) (P := fun x => x.From.length < 9223372036854775808) d25 f2 (fun m' r _ hr => wt64 hr)
    injection e0 with e0; subst e0
    injection e1 with e1; subst e1
    injection e2 with e2; subst e2
    exact ⟨⟨i, xs, rs⟩, rfl, hl, hl2, hx⟩
theorem closed : closedB T [3, 22, 24, 25, 27, 28, 30, 64] = true := by decide +kernel
theorem primOk : PrimOk Try.prog GL H := PrimOk.none fun f => hOf_pr (by kernel_rfl)
end Go.AM.S22

namespace Go.AM.S22
namespace Rel
open Go Go.Proofs Go.AM
set_option maxRecDepth 100000
set_option linter.unusedVariables false
set_option maxHeartbeats 4000000
abbrev PS := Option (Nat × List (List repair_labeled) × Nat)
def pv : PS → AV
  | none => .nms 4 1
  | some (g, _, n) => .ms 4 g 1 0 n
def po : PS → AObj
  | none => .dead
  | some (g, l, _) => .arr g 1 (List.map (rowA (rowL 3 row_repair_labeled)) l)
def yS (σ : List AObj) (s : PS) : List AObj := (σ.set 4 (po s)).set 5 (.cells [pv s])
theorem yS_len (σ : List AObj) (s : PS) : (yS σ s).length = σ.length := by simp [yS]
theorem yS_get (σ : List AObj) (s : PS) {i : Nat} (h : i ≠ 4 ∧ i ≠ 5) : (yS σ s)[i]? = σ[i]? := by
  unfold yS; rw [List.getElem?_set_ne (by omega), List.getElem?_set_ne (by omega)]
theorem yS_4 {σ : List AObj} (s : PS) (h : 8 ≤ σ.length) : (yS σ s)[4]? = some (po s) := by
  unfold yS; rw [List.getElem?_set_ne (by decide), List.getElem?_set_self (by omega)]
theorem yS_5 {σ : List AObj} (s : PS) (h : 8 ≤ σ.length) : (yS σ s)[5]? = some (.cells [pv s]) := by
  unfold yS; rw [List.getElem?_set_self (by simp; omega)]
theorem yS_set (σ : List AObj) (s p : PS) : ((yS σ s).set 4 (po p)).set 5 (.cells [pv p]) = yS σ p := by
  unfold yS
  rw [List.set_comm _ _ (by decide : 5 ≠ 4), List.set_set, List.set_set]
theorem yS_app {σ : List AObj} (s : PS) (h : 8 ≤ σ.length) (l : List AObj) : yS σ s ++ l = yS (σ ++ l) s := by
  unfold yS
  rw [List.set_append_left _ _ (by omega), List.set_append_left _ _ (by simp; omega)]
def relRow0 (n : Nat) (a : Automaton) (u : Tree) : Option (List (List repair_labeled) × Nat) :=
  (mkz 40 a.States a.States (repair_labeled.mk 0 (Tree.mk 0 ([] : List Tree)))).bind fun v1 =>
  rangeI ((a.States).toNat : Int) v1 (fun k1 i1 (s1 : (List repair_labeled)) n1 =>
    (idxM ((a.States).toNat) s1 (i1 : Int)).bind fun v9 =>
    n1 (List.set s1 i1 (repair_labeled.mk (-1) v9.tree))) fun s1 =>
  rangeL a.Rules s1 (fun k2 i2 x2 (s2 : (List repair_labeled)) n2 =>
    (cutM 0 (w64 (0 - (u.Kids.length : Int)))).bind fun v5 =>
    (repair_relabeled x2 u ([] : List (List repair_labeled))).bind fun v6 =>
    if v6.2 = true then
      (idxM ((a.States).toNat) s2 x2.To).bind fun v7 =>
      (repair_before n v6.1 v7).bind fun v8 =>
      if v8 = true then
        n2 (List.set s2 ((x2.To).toNat) v6.1)
      else
        n2 s2
    else
      n2 s2) fun s2 =>
  (cutM 0 (w64 (0 - (u.Kids.length : Int)))).bind fun v2 =>
  (allM 0 ((a.States).toNat) s2).bind fun v3 =>
  (appM 24 0 ([] : List (List repair_labeled)) [v3]).bind fun v4 =>
  some (v4, 1)
theorem relRow0_spec {E : Env} (hE4 : get E 4 = .ptr 1 0) (hE9 : get E 9 = .ptr 5 0) (hEl : ∀ t, ltV 7 (get E t) = true) {σ : List AObj} (hl : 8 ≤ σ.length) (n : Nat) (a : Automaton) (u : Tree) (o1 : σ[1]? = some (.cells [.p (iv a.States), .p (.sl none 1 (List.map rowI a.Final)), .p (.sl none 3 (List.map row_Rule a.Rules))]))  (r : List (List repair_labeled) × Nat) (h : relRow0 n a u = some r) (i : Int) (K : Ex × S → Option (Out × List AObj)) (Q : Out × List AObj → Prop)
    (hK : ∀ env loc, Sat (K (.normal, ⟨env, yS σ (some (1, r.1, r.2)) ++ loc, [], none, false⟩)) Q) :
    Sat (run Try.prog T H 10 σ.length 0 B10_0 ⟨(11, .ptr σ.length 0) :: (36, .p (iv i)) :: (37, .p (.agg [iv u.Sym, .sl none 2 (List.map row_Tree u.Kids)])) :: E, (yS σ none) ++ [.cells [.p (iv u.Sym), .p (.sl none 2 (List.map row_Tree u.Kids))]], [], none, false⟩ K) Q := by
  unfold relRow0 at h
  have yl := fun s => yS_len σ s
  have b1 : ∀ s l, (yS σ s ++ l)[1]? = some (.cells [.p (iv a.States), .p (.sl none 1 (List.map rowI a.Final)), .p (.sl none 3 (List.map row_Rule a.Rules))]) := fun s l => by rw [List.getElem?_append_left (by rw [yS_len]; omega), yS_get _ _ (by decide), o1]
  have f5 : ∀ k, (yS σ none ++ k)[5]? = some (.cells [.nms 4 1]) := fun k => by rw [List.getElem?_append_left (by rw [yS_len]; omega), yS_5 _ (by omega)]; rfl
  have fd : ∀ k, (yS σ none ++ k)[4]? = some .dead := fun k => by rw [List.getElem?_append_left (by rw [yS_len]; omega), yS_4 _ (by omega)]; rfl
  have f45 : ∀ k X, ((yS σ none ++ k).set 4 X)[5]? = some (.cells [.nms 4 1]) := fun k X => by rw [List.getElem?_set_ne (by decide)]; exact f5 k
  have hp : ∀ k v m, ((yS σ none ++ k).set 4 (.arr 1 1 (List.map (rowA (rowL 3 row_repair_labeled)) v))).set 5 (.cells [.ms 4 1 1 0 m]) = yS σ (some (1, v, m)) ++ k := fun k v m => by rw [List.set_append_left _ _ (by rw [yS_len]; omega), List.set_append_left _ _ (by rw [List.length_set, yS_len]; omega)]; exact congrArg (· ++ k) (yS_set σ _ (some (1, v, m)))
  have g0 : ∀ s l, (yS σ s ++ l)[σ.length]? = l[0]? := fun s l => sA0 (yS_len σ s)
  have gk : ∀ s l k, (yS σ s ++ l)[σ.length + k]? = l[k]? := fun s l k => sAK (yS_len σ s)
  have s0 : ∀ s l y, (yS σ s ++ l).set σ.length y = yS σ s ++ l.set 0 y := fun s l y => sS0 (yS_len σ s)
  have sk : ∀ s l y k, (yS σ s ++ l).set (σ.length + k) y = yS σ s ++ l.set k y := fun s l y k => sSK (yS_len σ s)
  have t0 : ∀ s l, (yS σ s ++ l).take σ.length = yS σ s := fun s l => sT0 (yS_len σ s)
  have tk : ∀ s l k, (yS σ s ++ l).take (σ.length + k) = yS σ s ++ l.take k := fun s l k => sTK (yS_len σ s)
  have tx : ∀ s, (yS σ s).take σ.length = yS σ s := fun s => sTX (yS_len σ s)
  have lt : ∀ k, 1 < σ.length + k ∧ 3 < σ.length + k ∧ 4 < σ.length + k ∧ 5 < σ.length + k := fun k => by omega
  have lE : ∀ t k, ltV (σ.length + k) (get E t) = true := fun t k => ltV_mono (by omega) _ (hEl t)
  have lE0 : ∀ t, ltV σ.length (get E t) = true := fun t => ltV_mono (by omega) _ (hEl t)
  conv => arg 1; arg 7; unfold B10_0 rangeB S22.c10 Try.f10; simp only [rangeIn, Option.getD_some, if_true]
  obtain ⟨v1, e_v1, h⟩ := ob h
  obtain ⟨e_v11, e_v12, e_v13, e_v14⟩ := mkz_some e_v1
  have e_v1b : boundOk (a.States).toNat 40 = true := bnd_of e_v13 (by decide)
  have e_v1r : List.replicate (a.States).toNat [AV.p (iv 0), AV.p (iv 0), AV.p (.sl none 2 [])] = List.map (rowA row_repair_labeled) v1 := by rw [e_v14]; exact rep_map (by first | rfl | simp only [go_sem, List.map_nil])
  simp only [go_sem, e_v11, e_v12, e_v1b, e_v1r, hE4, hE9, yl, b1, f5, fd, f45, hp, g0, gk, s0, sk, t0, tk, tx, lt, lE, lE0]
  refine run_rangeI (c := L10_2) (live := [4, 7, 9, 11, 12, 13, 48, 49]) (by simp only [go_sem]) (M := fun i1 (s1 : (List repair_labeled)) => [(4, .ptr 1 0), (7, (get E 7)), (9, .ptr 5 0), (11, .ptr σ.length 0), (12, .p (iv (w64 (0 - (u.Kids.length : Int))))), (13, .ms (σ.length + 1) 0 3 0 ((a.States).toNat)), (48, .p (iv ((a.States).toNat : Int))), (49, .p (iv (i1 : Int)))]) (Z := fun i1 (s1 : (List repair_labeled)) => ((yS σ none) ++ [.cells [.p (iv u.Sym), .p (.sl none 2 (List.map row_Tree u.Kids))], .arr 0 3 (List.map (rowA row_repair_labeled) s1)])) (N := fun (s1 : (List repair_labeled)) => ⟨[(4, .ptr 1 0), (7, (get E 7)), (9, .ptr 5 0), (11, .ptr σ.length 0), (12, .p (iv (w64 (0 - (u.Kids.length : Int))))), (13, .ms (σ.length + 1) 0 3 0 ((a.States).toNat))], ((yS σ none) ++ [.cells [.p (iv u.Sym), .p (.sl none 2 (List.map row_Tree u.Kids))], .arr 0 3 (List.map (rowA row_repair_labeled) s1)]), [], none, false⟩) h (by first | rfl | (simp only [go_sem, hE4, hE9, yl, b1, f5, fd, f45, hp, g0, gk, s0, sk, t0, tk, tx, lt, lE, lE0]; done) | (simp only [go_sem, hE4, hE9, yl, b1, f5, fd, f45, hp, g0, gk, s0, sk, t0, tk, tx, lt, lE, lE0]; rfl)) (by first | rfl | (simp only [go_sem, hE4, hE9, yl, b1, f5, fd, f45, hp, g0, gk, s0, sk, t0, tk, tx, lt, lE, lE0]; done) | (simp only [go_sem, hE4, hE9, yl, b1, f5, fd, f45, hp, g0, gk, s0, sk, t0, tk, tx, lt, lE, lE0]; rfl)) (fun _ _ => rfl) ?_ ?_ ?_
  · intro s1 h
    try dsimp only at h ⊢
    simp only [go_sem, hE4, hE9, yl, b1, f5, fd, f45, hp, g0, gk, s0, sk, t0, tk, tx, lt, lE, lE0]
    refine run_rangeL (c := L10_4) (live := [4, 7, 9, 11, 12, 13, 58, 59, 60]) (by simp only [go_sem]) (M := fun i2 (s2 : (List repair_labeled)) => [(4, .ptr 1 0), (7, (get E 7)), (9, .ptr 5 0), (11, .ptr σ.length 0), (12, .p (iv (w64 (0 - (u.Kids.length : Int))))), (13, .ms (σ.length + 1) 0 3 0 ((a.States).toNat)), (58, .p (.sl none 3 (List.map row_Rule a.Rules))), (59, .p (iv (a.Rules.length : Int))), (60, .p (iv (i2 : Int)))]) (Z := fun i2 (s2 : (List repair_labeled)) => ((yS σ none) ++ [.cells [.p (iv u.Sym), .p (.sl none 2 (List.map row_Tree u.Kids))], .arr 0 3 (List.map (rowA row_repair_labeled) s2)])) (N := fun (s2 : (List repair_labeled)) => ⟨[(4, .ptr 1 0), (7, (get E 7)), (9, .ptr 5 0), (12, .p (iv (w64 (0 - (u.Kids.length : Int))))), (13, .ms (σ.length + 1) 0 3 0 ((a.States).toNat))], ((yS σ none) ++ [.cells [.p (iv u.Sym), .p (.sl none 2 (List.map row_Tree u.Kids))], .arr 0 3 (List.map (rowA row_repair_labeled) s2)]), [], none, false⟩) h (by first | rfl | (simp only [go_sem, hE4, hE9, yl, b1, f5, fd, f45, hp, g0, gk, s0, sk, t0, tk, tx, lt, lE, lE0]; done) | (simp only [go_sem, hE4, hE9, yl, b1, f5, fd, f45, hp, g0, gk, s0, sk, t0, tk, tx, lt, lE, lE0]; rfl)) (by first | rfl | (simp only [go_sem, hE4, hE9, yl, b1, f5, fd, f45, hp, g0, gk, s0, sk, t0, tk, tx, lt, lE, lE0]; done) | (simp only [go_sem, hE4, hE9, yl, b1, f5, fd, f45, hp, g0, gk, s0, sk, t0, tk, tx, lt, lE, lE0]; rfl)) (fun _ _ => rfl) ?_ ?_ ?_
    · intro s2 h
      try dsimp only at h ⊢
      obtain ⟨v2, e_v2, h⟩ := ob h
      obtain ⟨e_v2a, e_v2b, e_v2d⟩ := cutM_some e_v2
      have e_v2z : v2 = 0 := Nat.le_zero.1 e_v2b
      obtain ⟨v3, e_v3, h⟩ := ob h
      have e_v3a := (allM_some e_v3).1
      have e_v3b := (allM_some e_v3).2
      try simp only [Nat.zero_add] at e_v3a
      try simp only [List.drop_zero] at e_v3b
      obtain ⟨v4, e_v4, h⟩ := ob h
      have e_v4a := (appM_some e_v4).1
      have e_v4b : boundOk (1) 24 = true := by decide
      have e_v4l : v4.length = 1 := by rw [← (appM_some e_v4).2.2]; rfl
      have e_v4e : (List.map (rowA (rowL 3 row_repair_labeled)) v4).isEmpty = false := by rw [← (appM_some e_v4).2.2]; rfl
      have e_v4c : [[AV.p (.sl none 3 (List.map row_repair_labeled v3))]] = List.map (rowA (rowL 3 row_repair_labeled)) v4 := by rw [← (appM_some e_v4).2.2]; simp [rowA, rowL, row_repair_labeled_eq]
      simp only [go_sem, e_v2a, e_v2d, e_v2z, e_v3a, e_v3b, e_v4b, e_v4l, e_v4e, e_v4c, hE4, hE9, yl, b1, f5, fd, f45, hp, g0, gk, s0, sk, t0, tk, tx, lt, lE, lE0]
      injection h with h; subst h
      exact hK _ _
    · intro K2 s2 hb2 he2
      try dsimp only
      conv => arg 1; arg 7; unfold L10_4 loopAt S22.c10 Try.f10; simp only [loopIn, Option.getD_some, if_true]
      simp only [go_sem, he2, hE4, hE9, yl, b1, f5, fd, f45, hp, g0, gk, s0, sk, t0, tk, tx, lt, lE, lE0]
      exact hb2
    · intro K2 k2 i2 x2 s2 n2 hR2 hE2 hb2 hx2 hi2 hw2 ih2 h
      try dsimp only at h ⊢
      conv => arg 1; arg 7; unfold L10_4 loopAt S22.c10 Try.f10; simp only [loopIn, Option.getD_some, if_true]
      obtain ⟨v5, e_v5, h⟩ := ob h
      obtain ⟨e_v5a, e_v5b, e_v5d⟩ := cutM_some e_v5
      have e_v5z : v5 = 0 := Nat.le_zero.1 e_v5b
      obtain ⟨v6, e_v6, h⟩ := ob h
      have e_v6c : call Try.prog T H (.fn 31) [.p (.agg [iv x2.Sym, .sl none 1 (List.map rowI x2.From), iv x2.To]), .p (.agg [iv u.Sym, .sl none 2 (List.map row_Tree u.Kids)]), .p (.sl none 1 [])] [] = some (.ret (.p (.tup [.agg [iv v6.1.many, iv v6.1.tree.Sym, .sl none 2 (List.map row_Tree v6.1.tree.Kids)], bv v6.2])), []) := spec31 x2 u ([] : List (List repair_labeled)) v6 e_v6
      by_cases c1 : v6.2 = true
      · have h := iteT h c1
        obtain ⟨v7, e_v7, h⟩ := ob h
        obtain ⟨e_v7a, e_v7b, e_v7d⟩ := idxM_some e_v7
        obtain ⟨v8, e_v8, h⟩ := ob h
        have e_v8c : call Try.prog T H (.fn 32) [.p (.agg [iv v6.1.many, iv v6.1.tree.Sym, .sl none 2 (List.map row_Tree v6.1.tree.Kids)]), .p (.agg [iv v7.many, iv v7.tree.Sym, .sl none 2 (List.map row_Tree v7.tree.Kids)])] [] = some (.ret (.p (bv v8)), []) := spec32 n v6.1 v7 v8 e_v8
        by_cases c2 : v8 = true
        · have h := iteT h c2
          have e_y1 : List.set (List.map (rowA row_repair_labeled) s2) ((x2.To).toNat) [.p (iv v6.1.many), .p (iv v6.1.tree.Sym), .p (.sl none 2 (List.map row_Tree v6.1.tree.Kids))] = List.map (rowA row_repair_labeled) (List.set s2 ((x2.To).toNat) v6.1) := map_set' (by first | rfl | simp only [go_sem, List.map_cons, List.map_nil])
          simp only [go_sem, hx2, hi2, hw2, e_v5a, e_v5d, e_v5z, e_v6c, c1, e_v7a, e_v7b, e_v7d, e_v8c, c2, e_y1, hR2, hE2, hE4, hE9, yl, b1, f5, fd, f45, hp, g0, gk, s0, sk, t0, tk, tx, lt, lE, lE0]
          exact ih2 (List.set s2 ((x2.To).toNat) v6.1) h
        · have h := iteF h c2
          have c2 := eq_false_of_ne_true c2
          simp only [go_sem, hx2, hi2, hw2, e_v5a, e_v5d, e_v5z, e_v6c, c1, e_v7a, e_v7b, e_v7d, e_v8c, c2, hR2, hE2, hE4, hE9, yl, b1, f5, fd, f45, hp, g0, gk, s0, sk, t0, tk, tx, lt, lE, lE0]
          exact ih2 s2 h
      · have h := iteF h c1
        have c1 := eq_false_of_ne_true c1
        simp only [go_sem, hx2, hi2, hw2, e_v5a, e_v5d, e_v5z, e_v6c, c1, hR2, hE2, hE4, hE9, yl, b1, f5, fd, f45, hp, g0, gk, s0, sk, t0, tk, tx, lt, lE, lE0]
        exact ih2 s2 h
  · intro K1 i1 s1 hb1 he1
    try dsimp only
    conv => arg 1; arg 7; unfold L10_2 loopAt S22.c10 Try.f10; simp only [loopIn, Option.getD_some, if_true]
    simp only [go_sem, he1, hE4, hE9, yl, b1, f5, fd, f45, hp, g0, gk, s0, sk, t0, tk, tx, lt, lE, lE0]
    exact hb1
  · intro K1 k1 i1 s1 n1 hR1 hE1 hb1 hi1 hw1 ih1 h
    try dsimp only at h ⊢
    conv => arg 1; arg 7; unfold L10_2 loopAt S22.c10 Try.f10; simp only [loopIn, Option.getD_some, if_true]
    obtain ⟨v9, e_v9, h⟩ := ob h
    obtain ⟨e_v9a, e_v9b, e_v9d⟩ := idxM_some e_v9
    simp only [Int.toNat_natCast] at e_v9b
    simp only [Int.toNat_natCast] at e_v9d
    have e_y2 : List.set (List.map (rowA row_repair_labeled) s1) i1 [.p (iv (-1)), .p (iv v9.tree.Sym), .p (.sl none 2 (List.map row_Tree v9.tree.Kids))] = List.map (rowA row_repair_labeled) (List.set s1 i1 (repair_labeled.mk (-1) v9.tree)) := map_set' (by first | rfl | simp only [go_sem, List.map_cons, List.map_nil])
    simp only [go_sem, hi1, hw1, e_v9b, e_v9d, e_y2, hR1, hE1, hE4, hE9, yl, b1, f5, fd, f45, hp, g0, gk, s0, sk, t0, tk, tx, lt, lE, lE0]
    exact ih1 (List.set s1 i1 (repair_labeled.mk (-1) v9.tree)) h
def relRow (n : Nat) (a : Automaton) (u : Tree) (o : List (List repair_labeled)) (l : Nat) : Option (List (List repair_labeled) × Nat) :=
  (mkz 40 a.States a.States (repair_labeled.mk 0 (Tree.mk 0 ([] : List Tree)))).bind fun v1 =>
  rangeI ((a.States).toNat : Int) v1 (fun k1 i1 (s1 : (List repair_labeled)) n1 =>
    (idxM ((a.States).toNat) s1 (i1 : Int)).bind fun v9 =>
    n1 (List.set s1 i1 (repair_labeled.mk (-1) v9.tree))) fun s1 =>
  rangeL a.Rules s1 (fun k2 i2 x2 (s2 : (List repair_labeled)) n2 =>
    (cutM l (w64 ((l : Int) - (u.Kids.length : Int)))).bind fun v5 =>
    (repair_relabeled_xxq x2 u o (l - v5) v5).bind fun v6 =>
    if v6.2 = true then
      (idxM ((a.States).toNat) s2 x2.To).bind fun v7 =>
      (repair_before n v6.1 v7).bind fun v8 =>
      if v8 = true then
        n2 (List.set s2 ((x2.To).toNat) v6.1)
      else
        n2 s2
    else
      n2 s2) fun s2 =>
  (cutM l (w64 ((l : Int) - (u.Kids.length : Int)))).bind fun v2 =>
  (allM 0 ((a.States).toNat) s2).bind fun v3 =>
  (appM 24 v2 o [v3]).bind fun v4 =>
  some (v4, (v2 + 1))
theorem relRow_spec {E : Env} (hE4 : get E 4 = .ptr 1 0) (hE9 : get E 9 = .ptr 5 0) (hEl : ∀ t, ltV 7 (get E t) = true) {σ : List AObj} (hl : 8 ≤ σ.length) (n : Nat) (a : Automaton) (u : Tree) (g : Nat) (o : List (List repair_labeled)) (l : Nat) (o1 : σ[1]? = some (.cells [.p (iv a.States), .p (.sl none 1 (List.map rowI a.Final)), .p (.sl none 3 (List.map row_Rule a.Rules))]))  (r : List (List repair_labeled) × Nat) (h : relRow n a u o l = some r) (i : Int) (K : Ex × S → Option (Out × List AObj)) (Q : Out × List AObj → Prop)
    (hK : ∀ env loc, Sat (K (.normal, ⟨env, yS σ (some ((g + 1), r.1, r.2)) ++ loc, [], none, false⟩)) Q) :
    Sat (run Try.prog T H 10 σ.length 0 B10_0 ⟨(11, .ptr σ.length 0) :: (36, .p (iv i)) :: (37, .p (.agg [iv u.Sym, .sl none 2 (List.map row_Tree u.Kids)])) :: E, (yS σ (some (g, o, l))) ++ [.cells [.p (iv u.Sym), .p (.sl none 2 (List.map row_Tree u.Kids))]], [], none, false⟩ K) Q := by
  unfold relRow at h
  have yl := fun s => yS_len σ s
  have b1 : ∀ s l, (yS σ s ++ l)[1]? = some (.cells [.p (iv a.States), .p (.sl none 1 (List.map rowI a.Final)), .p (.sl none 3 (List.map row_Rule a.Rules))]) := fun s l => by rw [List.getElem?_append_left (by rw [yS_len]; omega), yS_get _ _ (by decide), o1]
  have f5 : ∀ k, (yS σ (some (g, o, l)) ++ k)[5]? = some (.cells [.ms 4 g 1 0 l]) := fun k => by rw [List.getElem?_append_left (by rw [yS_len]; omega), yS_5 _ (by omega)]; rfl
  have f4 : ∀ k, (yS σ (some (g, o, l)) ++ k)[4]? = some (.arr g 1 (List.map (rowA (rowL 3 row_repair_labeled)) o)) := fun k => by rw [List.getElem?_append_left (by rw [yS_len]; omega), yS_4 _ (by omega)]; rfl
  have f45 : ∀ k X, ((yS σ (some (g, o, l)) ++ k).set 4 X)[5]? = some (.cells [.ms 4 g 1 0 l]) := fun k X => by rw [List.getElem?_set_ne (by decide)]; exact f5 k
  have hp : ∀ k v m, ((yS σ (some (g, o, l)) ++ k).set 4 (.arr (g + 1) 1 (List.map (rowA (rowL 3 row_repair_labeled)) v))).set 5 (.cells [.ms 4 (g + 1) 1 0 m]) = yS σ (some ((g + 1), v, m)) ++ k := fun k v m => by rw [List.set_append_left _ _ (by rw [yS_len]; omega), List.set_append_left _ _ (by rw [List.length_set, yS_len]; omega)]; exact congrArg (· ++ k) (yS_set σ _ (some ((g + 1), v, m)))
  have g0 : ∀ s l, (yS σ s ++ l)[σ.length]? = l[0]? := fun s l => sA0 (yS_len σ s)
  have gk : ∀ s l k, (yS σ s ++ l)[σ.length + k]? = l[k]? := fun s l k => sAK (yS_len σ s)
  have s0 : ∀ s l y, (yS σ s ++ l).set σ.length y = yS σ s ++ l.set 0 y := fun s l y => sS0 (yS_len σ s)
  have sk : ∀ s l y k, (yS σ s ++ l).set (σ.length + k) y = yS σ s ++ l.set k y := fun s l y k => sSK (yS_len σ s)
  have t0 : ∀ s l, (yS σ s ++ l).take σ.length = yS σ s := fun s l => sT0 (yS_len σ s)
  have tk : ∀ s l k, (yS σ s ++ l).take (σ.length + k) = yS σ s ++ l.take k := fun s l k => sTK (yS_len σ s)
  have tx : ∀ s, (yS σ s).take σ.length = yS σ s := fun s => sTX (yS_len σ s)
  have lt : ∀ k, 1 < σ.length + k ∧ 3 < σ.length + k ∧ 4 < σ.length + k ∧ 5 < σ.length + k := fun k => by omega
  have lE : ∀ t k, ltV (σ.length + k) (get E t) = true := fun t k => ltV_mono (by omega) _ (hEl t)
  have lE0 : ∀ t, ltV σ.length (get E t) = true := fun t => ltV_mono (by omega) _ (hEl t)
  conv => arg 1; arg 7; unfold B10_0 rangeB S22.c10 Try.f10; simp only [rangeIn, Option.getD_some, if_true]
  obtain ⟨v1, e_v1, h⟩ := ob h
  obtain ⟨e_v11, e_v12, e_v13, e_v14⟩ := mkz_some e_v1
  have e_v1b : boundOk (a.States).toNat 40 = true := bnd_of e_v13 (by decide)
  have e_v1r : List.replicate (a.States).toNat [AV.p (iv 0), AV.p (iv 0), AV.p (.sl none 2 [])] = List.map (rowA row_repair_labeled) v1 := by rw [e_v14]; exact rep_map (by first | rfl | simp only [go_sem, List.map_nil])
  simp only [go_sem, e_v11, e_v12, e_v1b, e_v1r, hE4, hE9, yl, b1, f5, f4, f45, hp, g0, gk, s0, sk, t0, tk, tx, lt, lE, lE0]
  refine run_rangeI (c := L10_2) (live := [4, 7, 9, 11, 12, 13, 48, 49]) (by simp only [go_sem]) (M := fun i1 (s1 : (List repair_labeled)) => [(4, .ptr 1 0), (7, (get E 7)), (9, .ptr 5 0), (11, .ptr σ.length 0), (12, .p (iv (w64 ((l : Int) - (u.Kids.length : Int))))), (13, .ms (σ.length + 1) 0 3 0 ((a.States).toNat)), (48, .p (iv ((a.States).toNat : Int))), (49, .p (iv (i1 : Int)))]) (Z := fun i1 (s1 : (List repair_labeled)) => ((yS σ (some (g, o, l))) ++ [.cells [.p (iv u.Sym), .p (.sl none 2 (List.map row_Tree u.Kids))], .arr 0 3 (List.map (rowA row_repair_labeled) s1)])) (N := fun (s1 : (List repair_labeled)) => ⟨[(4, .ptr 1 0), (7, (get E 7)), (9, .ptr 5 0), (11, .ptr σ.length 0), (12, .p (iv (w64 ((l : Int) - (u.Kids.length : Int))))), (13, .ms (σ.length + 1) 0 3 0 ((a.States).toNat))], ((yS σ (some (g, o, l))) ++ [.cells [.p (iv u.Sym), .p (.sl none 2 (List.map row_Tree u.Kids))], .arr 0 3 (List.map (rowA row_repair_labeled) s1)]), [], none, false⟩) h (by first | rfl | (simp only [go_sem, hE4, hE9, yl, b1, f5, f4, f45, hp, g0, gk, s0, sk, t0, tk, tx, lt, lE, lE0]; done) | (simp only [go_sem, hE4, hE9, yl, b1, f5, f4, f45, hp, g0, gk, s0, sk, t0, tk, tx, lt, lE, lE0]; rfl)) (by first | rfl | (simp only [go_sem, hE4, hE9, yl, b1, f5, f4, f45, hp, g0, gk, s0, sk, t0, tk, tx, lt, lE, lE0]; done) | (simp only [go_sem, hE4, hE9, yl, b1, f5, f4, f45, hp, g0, gk, s0, sk, t0, tk, tx, lt, lE, lE0]; rfl)) (fun _ _ => rfl) ?_ ?_ ?_
  · intro s1 h
    try dsimp only at h ⊢
    simp only [go_sem, hE4, hE9, yl, b1, f5, f4, f45, hp, g0, gk, s0, sk, t0, tk, tx, lt, lE, lE0]
    refine run_rangeL (c := L10_4) (live := [4, 7, 9, 11, 12, 13, 58, 59, 60]) (by simp only [go_sem]) (M := fun i2 (s2 : (List repair_labeled)) => [(4, .ptr 1 0), (7, (get E 7)), (9, .ptr 5 0), (11, .ptr σ.length 0), (12, .p (iv (w64 ((l : Int) - (u.Kids.length : Int))))), (13, .ms (σ.length + 1) 0 3 0 ((a.States).toNat)), (58, .p (.sl none 3 (List.map row_Rule a.Rules))), (59, .p (iv (a.Rules.length : Int))), (60, .p (iv (i2 : Int)))]) (Z := fun i2 (s2 : (List repair_labeled)) => ((yS σ (some (g, o, l))) ++ [.cells [.p (iv u.Sym), .p (.sl none 2 (List.map row_Tree u.Kids))], .arr 0 3 (List.map (rowA row_repair_labeled) s2)])) (N := fun (s2 : (List repair_labeled)) => ⟨[(4, .ptr 1 0), (7, (get E 7)), (9, .ptr 5 0), (12, .p (iv (w64 ((l : Int) - (u.Kids.length : Int))))), (13, .ms (σ.length + 1) 0 3 0 ((a.States).toNat))], ((yS σ (some (g, o, l))) ++ [.cells [.p (iv u.Sym), .p (.sl none 2 (List.map row_Tree u.Kids))], .arr 0 3 (List.map (rowA row_repair_labeled) s2)]), [], none, false⟩) h (by first | rfl | (simp only [go_sem, hE4, hE9, yl, b1, f5, f4, f45, hp, g0, gk, s0, sk, t0, tk, tx, lt, lE, lE0]; done) | (simp only [go_sem, hE4, hE9, yl, b1, f5, f4, f45, hp, g0, gk, s0, sk, t0, tk, tx, lt, lE, lE0]; rfl)) (by first | rfl | (simp only [go_sem, hE4, hE9, yl, b1, f5, f4, f45, hp, g0, gk, s0, sk, t0, tk, tx, lt, lE, lE0]; done) | (simp only [go_sem, hE4, hE9, yl, b1, f5, f4, f45, hp, g0, gk, s0, sk, t0, tk, tx, lt, lE, lE0]; rfl)) (fun _ _ => rfl) ?_ ?_ ?_
    · intro s2 h
      try dsimp only at h ⊢
      obtain ⟨v2, e_v2, h⟩ := ob h
      obtain ⟨e_v2a, e_v2b, e_v2d⟩ := cutM_some e_v2
      obtain ⟨v3, e_v3, h⟩ := ob h
      have e_v3a := (allM_some e_v3).1
      have e_v3b := (allM_some e_v3).2
      try simp only [Nat.zero_add] at e_v3a
      try simp only [List.drop_zero] at e_v3b
      obtain ⟨v4, e_v4, h⟩ := ob h
      have e_v4a := (appM_some e_v4).1
      have e_v4b : boundOk (v2 + 1) 24 = true := bnd_of (by have := (appM_some e_v4).2.1; simpa using this) (by decide)
      have e_v4c : List.map (rowA (rowL 3 row_repair_labeled)) (List.take v2 o) ++ [[AV.p (.sl none 3 (List.map row_repair_labeled v3))]] = List.map (rowA (rowL 3 row_repair_labeled)) v4 := by rw [← (appM_some e_v4).2.2]; simp [rowA, rowL, row_repair_labeled_eq]
      simp only [go_sem, e_v2a, e_v2b, e_v2d, e_v3a, e_v3b, e_v4b, e_v4a, e_v4c, hE4, hE9, yl, b1, f5, f4, f45, hp, g0, gk, s0, sk, t0, tk, tx, lt, lE, lE0]
      injection h with h; subst h
      exact hK _ _
    · intro K2 s2 hb2 he2
      try dsimp only
      conv => arg 1; arg 7; unfold L10_4 loopAt S22.c10 Try.f10; simp only [loopIn, Option.getD_some, if_true]
      simp only [go_sem, he2, hE4, hE9, yl, b1, f5, f4, f45, hp, g0, gk, s0, sk, t0, tk, tx, lt, lE, lE0]
      exact hb2
    · intro K2 k2 i2 x2 s2 n2 hR2 hE2 hb2 hx2 hi2 hw2 ih2 h
      try dsimp only at h ⊢
      conv => arg 1; arg 7; unfold L10_4 loopAt S22.c10 Try.f10; simp only [loopIn, Option.getD_some, if_true]
      obtain ⟨v5, e_v5, h⟩ := ob h
      obtain ⟨e_v5a, e_v5b, e_v5d⟩ := cutM_some e_v5
      obtain ⟨v6, e_v6, h⟩ := ob h
      have e_v6c : call Try.prog T H (.fn 31) [.p (.agg [iv x2.Sym, .sl none 1 (List.map rowI x2.From), iv x2.To]), .p (.agg [iv u.Sym, .sl none 2 (List.map row_Tree u.Kids)]), .ms 0 g 1 v5 (l - v5)] [.arr g 1 (List.map (rowA (rowL 3 row_repair_labeled)) o)] = some (.ret (.p (.tup [.agg [iv v6.1.many, iv v6.1.tree.Sym, .sl none 2 (List.map row_Tree v6.1.tree.Kids)], bv v6.2])), [.arr g 1 (List.map (rowA (rowL 3 row_repair_labeled)) o)]) := spec31_xxq g x2 u o (l - v5) v5 v6 e_v6
      by_cases c1 : v6.2 = true
      · have h := iteT h c1
        obtain ⟨v7, e_v7, h⟩ := ob h
        obtain ⟨e_v7a, e_v7b, e_v7d⟩ := idxM_some e_v7
        obtain ⟨v8, e_v8, h⟩ := ob h
        have e_v8c : call Try.prog T H (.fn 32) [.p (.agg [iv v6.1.many, iv v6.1.tree.Sym, .sl none 2 (List.map row_Tree v6.1.tree.Kids)]), .p (.agg [iv v7.many, iv v7.tree.Sym, .sl none 2 (List.map row_Tree v7.tree.Kids)])] [] = some (.ret (.p (bv v8)), []) := spec32 n v6.1 v7 v8 e_v8
        by_cases c2 : v8 = true
        · have h := iteT h c2
          have e_y1 : List.set (List.map (rowA row_repair_labeled) s2) ((x2.To).toNat) [.p (iv v6.1.many), .p (iv v6.1.tree.Sym), .p (.sl none 2 (List.map row_Tree v6.1.tree.Kids))] = List.map (rowA row_repair_labeled) (List.set s2 ((x2.To).toNat) v6.1) := map_set' (by first | rfl | simp only [go_sem, List.map_cons, List.map_nil])
          simp only [go_sem, hx2, hi2, hw2, e_v5a, e_v5b, e_v5d, e_v6c, c1, e_v7a, e_v7b, e_v7d, e_v8c, c2, e_y1, hR2, hE2, hE4, hE9, yl, b1, f5, f4, f45, hp, g0, gk, s0, sk, t0, tk, tx, lt, lE, lE0]
          exact ih2 (List.set s2 ((x2.To).toNat) v6.1) h
        · have h := iteF h c2
          have c2 := eq_false_of_ne_true c2
          simp only [go_sem, hx2, hi2, hw2, e_v5a, e_v5b, e_v5d, e_v6c, c1, e_v7a, e_v7b, e_v7d, e_v8c, c2, hR2, hE2, hE4, hE9, yl, b1, f5, f4, f45, hp, g0, gk, s0, sk, t0, tk, tx, lt, lE, lE0]
          exact ih2 s2 h
      · have h := iteF h c1
        have c1 := eq_false_of_ne_true c1
        simp only [go_sem, hx2, hi2, hw2, e_v5a, e_v5b, e_v5d, e_v6c, c1, hR2, hE2, hE4, hE9, yl, b1, f5, f4, f45, hp, g0, gk, s0, sk, t0, tk, tx, lt, lE, lE0]
        exact ih2 s2 h
  · intro K1 i1 s1 hb1 he1
    try dsimp only
    conv => arg 1; arg 7; unfold L10_2 loopAt S22.c10 Try.f10; simp only [loopIn, Option.getD_some, if_true]
    simp only [go_sem, he1, hE4, hE9, yl, b1, f5, f4, f45, hp, g0, gk, s0, sk, t0, tk, tx, lt, lE, lE0]
    exact hb1
  · intro K1 k1 i1 s1 n1 hR1 hE1 hb1 hi1 hw1 ih1 h
    try dsimp only at h ⊢
    conv => arg 1; arg 7; unfold L10_2 loopAt S22.c10 Try.f10; simp only [loopIn, Option.getD_some, if_true]
    obtain ⟨v9, e_v9, h⟩ := ob h
    obtain ⟨e_v9a, e_v9b, e_v9d⟩ := idxM_some e_v9
    simp only [Int.toNat_natCast] at e_v9b
    simp only [Int.toNat_natCast] at e_v9d
    have e_y2 : List.set (List.map (rowA row_repair_labeled) s1) i1 [.p (iv (-1)), .p (iv v9.tree.Sym), .p (.sl none 2 (List.map row_Tree v9.tree.Kids))] = List.map (rowA row_repair_labeled) (List.set s1 i1 (repair_labeled.mk (-1) v9.tree)) := map_set' (by first | rfl | simp only [go_sem, List.map_cons, List.map_nil])
    simp only [go_sem, hi1, hw1, e_v9b, e_v9d, e_y2, hR1, hE1, hE4, hE9, yl, b1, f5, f4, f45, hp, g0, gk, s0, sk, t0, tk, tx, lt, lE, lE0]
    exact ih1 (List.set s1 i1 (repair_labeled.mk (-1) v9.tree)) h
end Rel
end Go.AM.S22

namespace Go.AM.S22
set_option maxRecDepth 100000
set_option maxHeartbeats 4000000
set_option linter.unusedVariables false
open Go Go.Proofs Go.AM
theorem Sat.callrange {n : Nat} {K : Ex × S → Option (Out × List AObj)} {Q : Out × List AObj → Prop} {s : S} {d : Option Nat} {A : Option (Out × List AObj)} (h : Sat A (fun y => Sat (rangeK n K (some (endCall s d y.2 y.1))) Q)) :
    Sat (rangeK n K (callR s d A)) Q := by
  obtain ⟨⟨o, σ⟩, rfl, h2⟩ := h
  exact h2
namespace Rel
open Go Go.Proofs Go.AM
def stp (n : Nat) (a : Automaton) (u : Tree) : PS → Option PS
  | none => (relRow0 n a u).bind fun r => some (some (1, r.1, r.2))
  | some (g, o, l) => (relRow n a u o l).bind fun r => some (some (g + 1, r.1, r.2))
structure WF (E : Env) (a : Automaton) (σ : List AObj) : Prop where
  len : 11 ≤ σ.length
  o1 : σ[1]? = some (.cells [.p (iv a.States), .p (.sl none 1 (List.map rowI a.Final)), .p (.sl none 3 (List.map row_Rule a.Rules))])
  o7 : σ[7]? = some (.loop 0 none 128 10 E [36, 37] A10_0 B10_0)
  o8 : σ[8]? = some (.cells [.yld 7])
  o10 : σ[10]? = some (.cells [.fn 65 [.ptr 10 0, .ptr 9 0, .ptr 8 0]])
def wS (σ : List AObj) (s : PS × Int) : List AObj := yS (σ.set 9 (.cells [.p (iv s.2)])) s.1
theorem wS_len (σ : List AObj) (s : PS × Int) : (wS σ s).length = σ.length := by unfold wS; rw [yS_len, List.length_set]
theorem wS_get (σ : List AObj) (s : PS × Int) {i : Nat} (h : i ≠ 4 ∧ i ≠ 5 ∧ i ≠ 9) : (wS σ s)[i]? = σ[i]? := by
  unfold wS; rw [yS_get _ _ ⟨h.1, h.2.1⟩, List.getElem?_set_ne (by omega)]
theorem wS_9 {σ : List AObj} (s : PS × Int) (h : 11 ≤ σ.length) : (wS σ s)[9]? = some (.cells [.p (iv s.2)]) := by
  unfold wS; rw [yS_get _ _ (by decide), List.getElem?_set_self (by omega)]
theorem wS_set9 (σ : List AObj) (s : PS × Int) (m : Int) : (wS σ s).set 9 (.cells [.p (iv m)]) = wS σ (s.1, m) := by
  unfold wS yS
  simp only []
  rw [List.set_comm _ _ (by decide : 5 ≠ 9), List.set_comm _ _ (by decide : 4 ≠ 9), List.set_set]
theorem wS_app {σ : List AObj} (s : PS × Int) (h : 11 ≤ σ.length) (l : List AObj) : wS σ s ++ l = wS (σ ++ l) s := by
  unfold wS
  rw [yS_app _ (by simp; omega), List.set_append_left _ _ (by omega)]
theorem WF.app {E : Env} {a : Automaton} {σ : List AObj} (h : WF E a σ) (l : List AObj) : WF E a (σ ++ l) where
  len := by rw [List.length_append]; have := h.len; omega
  o1 := by rw [List.getElem?_append_left (by have := h.len; omega)]; exact h.o1
  o7 := by rw [List.getElem?_append_left (by have := h.len; omega)]; exact h.o7
  o8 := by rw [List.getElem?_append_left (by have := h.len; omega)]; exact h.o8
  o10 := by rw [List.getElem?_append_left (by have := h.len; omega)]; exact h.o10
theorem set_back {α : Type} {l : List α} {i : Nat} {a : α} (h : l[i]? = some a) : l.set i a = l := by
  apply List.ext_getElem?
  intro j
  by_cases e : i = j
  · subst e
    have := (List.getElem?_eq_some_iff.mp h).1
    rw [List.getElem?_set_self this, h]
  · rw [List.getElem?_set_ne e]
theorem yld_spec {E : Env} (hE4 : get E 4 = .ptr 1 0) (hE9 : get E 9 = .ptr 5 0) (hEl : ∀ t, ltV 7 (get E t) = true) (n : Nat) (a : Automaton) {σ : List AObj} (w : WF E a σ) (u : Tree) (s : PS × Int) (p : PS) (h : stp n a u s.1 = some p) (i : Int) (l : List AObj) :
    call Try.prog T H (.yld 7) [.p (iv i), .p (.agg [iv u.Sym, .sl none 2 (List.map row_Tree u.Kids)])] (wS σ s ++ l) = some (.ret (.p (bv true)), wS σ (p, s.2) ++ l) := by
  refine Sat.fn fun Q hQ => ?_
  have hl := w.len
  have e1 : ∀ q : PS, wS σ (q, s.2) ++ l = yS (σ.set 9 (.cells [.p (iv s.2)]) ++ l) q := fun q => by unfold wS; rw [yS_app _ (by simp; omega)]
  have e1s : wS σ s ++ l = yS (σ.set 9 (.cells [.p (iv s.2)]) ++ l) s.1 := e1 s.1
  rw [e1s]
  rw [e1 p] at hQ
  have r7 : (σ.set 9 (.cells [.p (iv s.2)]) ++ l)[7]? = some (.loop 0 none 128 10 E [36, 37] A10_0 B10_0) := by rw [List.getElem?_append_left (by simp; omega), List.getElem?_set_ne (by decide)]; exact w.o7
  have r1 : (σ.set 9 (.cells [.p (iv s.2)]) ++ l)[1]? = some (.cells [.p (iv a.States), .p (.sl none 1 (List.map rowI a.Final)), .p (.sl none 3 (List.map row_Rule a.Rules))]) := by rw [List.getElem?_append_left (by simp; omega), List.getElem?_set_ne (by decide)]; exact w.o1
  have rl : 8 ≤ (σ.set 9 (.cells [.p (iv s.2)]) ++ l).length := by simp; omega
  generalize σ.set 9 (.cells [.p (iv s.2)]) ++ l = ρ at r7 r1 rl hQ ⊢
  have y7 : ∀ q, (yS ρ q)[7]? = some (.loop 0 none 128 10 E [36, 37] A10_0 B10_0) := fun q => by rw [yS_get _ _ (by decide)]; exact r7
  have a7 : ∀ q k, (yS ρ q ++ k)[7]? = some (.loop 0 none 128 10 E [36, 37] A10_0 B10_0) := fun q k => by rw [List.getElem?_append_left (by rw [yS_len]; omega)]; exact y7 q
  have s7 : ∀ q k, (yS ρ q ++ k).set 7 (.loop 1 none 128 10 E [36, 37] A10_0 B10_0) = yS (ρ.set 7 (.loop 1 none 128 10 E [36, 37] A10_0 B10_0)) q ++ k := fun q k => by
    rw [List.set_append_left _ _ (by rw [yS_len]; omega)]
    unfold yS
    rw [List.set_comm _ _ (by decide : 5 ≠ 7), List.set_comm _ _ (by decide : 4 ≠ 7)]
  have b7 : ∀ q k, (yS (ρ.set 7 (.loop 1 none 128 10 E [36, 37] A10_0 B10_0)) q ++ k)[7]? = some (.loop 1 none 128 10 E [36, 37] A10_0 B10_0) := fun q k => by
    rw [List.getElem?_append_left (by rw [yS_len, List.length_set]; omega), yS_get _ _ (by decide), List.getElem?_set_self (by omega)]
  have c7 : ∀ q k, (yS (ρ.set 7 (.loop 1 none 128 10 E [36, 37] A10_0 B10_0)) q ++ k).set 7 (.loop 0 none 128 10 E [36, 37] A10_0 B10_0) = yS ρ q ++ k := fun q k => by
    rw [List.set_append_left _ _ (by rw [yS_len, List.length_set]; omega)]
    unfold yS
    rw [List.set_comm _ _ (by decide : 5 ≠ 7), List.set_comm _ _ (by decide : 4 ≠ 7), List.set_set, set_back r7]
  have t7 : ∀ q k, (yS ρ q ++ k).take ρ.length = yS ρ q := fun q k => by
    rw [← yS_len ρ q, List.take_left']; rfl
  have g0 : ∀ s l, (yS ρ s ++ l)[ρ.length]? = l[0]? := fun s l => sA0 (yS_len ρ s)
  have s0 : ∀ s l y, (yS ρ s ++ l).set ρ.length y = yS ρ s ++ l.set 0 y := fun s l y => sS0 (yS_len ρ s)
  rw [call_yld (h := y7 s.1) (hok := yo10_0) (hl := rfl)]
  conv => arg 1; arg 7; unfold A10_0 rangeA S22.c10 Try.f10; simp only [rangeIn, Option.getD_some, if_true]
  simp only [go_sem, asgK, setSt, Option.getD_none, yS_len, g0, s0, a7, s7]
  have lens : (ρ.set 7 (.loop 1 none 128 10 E [36, 37] A10_0 B10_0)).length = ρ.length := List.length_set ..
  have fin : ∀ (q : PS) (env : Env) (loc : List AObj), p = q → Sat (yldK 7 ρ.length (.normal, ⟨env, yS (ρ.set 7 (.loop 1 none 128 10 E [36, 37] A10_0 B10_0)) q ++ loc, [], none, false⟩)) Q := fun q env loc e => by
    subst e
    rw [yldK_normal 7 ρ.length _ (setSt_eq (b7 p loc))]
    simp only [Option.getD_some, c7, t7]
    exact Sat.ok hQ
  rcases hs : s.1 with _ | ⟨g, o, m⟩
  · rw [hs] at h
    obtain ⟨r, e_r, h⟩ := ob h
    injection h with h
    have q := relRow0_spec hE4 hE9 hEl (σ := ρ.set 7 (.loop 1 none 128 10 E [36, 37] A10_0 B10_0)) (by rw [lens]; exact rl) n a u (by rw [List.getElem?_set_ne (by decide)]; exact r1) r e_r i (yldK 7 ρ.length) Q (fun env loc => fin _ env loc h.symm)
    rw [lens] at q
    exact q
  · rw [hs] at h
    obtain ⟨r, e_r, h⟩ := ob h
    injection h with h
    have q := relRow_spec hE4 hE9 hEl (σ := ρ.set 7 (.loop 1 none 128 10 E [36, 37] A10_0 B10_0)) (by rw [lens]; exact rl) n a u g o m (by rw [List.getElem?_set_ne (by decide)]; exact r1) r e_r i (yldK 7 ρ.length) Q (fun env loc => fin _ env loc h.symm)
    rw [lens] at q
    exact q
def walk (n : Nat) (a : Automaton) : Nat → Tree → PS × Int → Option (PS × Int)
  | 0, _, _ => none
  | k + 1, t, s =>
    rangeL t.Kids s (fun _ _ x1 s1 n1 => (walk n a k x1 s1).bind fun v => n1 v) fun s1 =>
    (stp n a t s1.1).bind fun p => some (p, w64 (s1.2 + 1))
theorem spec65 {E : Env} (hE4 : get E 4 = .ptr 1 0) (hE9 : get E 9 = .ptr 5 0) (hEl : ∀ t, ltV 7 (get E t) = true) (n : Nat) (a : Automaton) : ∀ (k : Nat) (σ : List AObj) (w : WF E a σ) (t : Tree) (s r : PS × Int), walk n a k t s = some r →
    call Try.prog T H (.fn 65) [.p (.agg [iv t.Sym, .sl none 2 (List.map row_Tree t.Kids)]), .ptr 10 0, .ptr 9 0, .ptr 8 0] (wS σ s) = some (.ret (.p (bv true)), wS σ r) := by
  intro k
  induction k with
  | zero => intro σ w t s r h; cases h
  | succ k ih =>
    intro σ w t s r h
    refine Sat.fn fun Q hQ => ?_
    rw [walk] at h
    have hl := w.len
    have b9n : ∀ s, (wS σ s)[9]? = some (.cells [.p (iv s.2)]) := fun s => wS_9 _ hl
    have b9 : ∀ s l, (wS σ s ++ l)[9]? = some (.cells [.p (iv s.2)]) := fun s l => by rw [List.getElem?_append_left (by rw [wS_len]; omega), wS_9 _ hl]
    have b8 : ∀ s l, (wS σ s ++ l)[8]? = some (.cells [.yld 7]) := fun s l => by rw [List.getElem?_append_left (by rw [wS_len]; omega), wS_get _ _ (by decide), w.o8]
    have b10 : ∀ s l, (wS σ s ++ l)[10]? = some (.cells [.fn 65 [.ptr 10 0, .ptr 9 0, .ptr 8 0]]) := fun s l => by rw [List.getElem?_append_left (by rw [wS_len]; omega), wS_get _ _ (by decide), w.o10]
    have bs9 : ∀ s l m, (wS σ s ++ l).set 9 (.cells [.p (iv m)]) = wS σ (s.1, m) ++ l := fun s l m => by rw [List.set_append_left _ _ (by rw [wS_len]; omega), wS_set9]
    have g0 : ∀ s l, (wS σ s ++ l)[σ.length]? = l[0]? := fun s l => sA0 (wS_len σ s)
    have gk : ∀ s l k, (wS σ s ++ l)[σ.length + k]? = l[k]? := fun s l k => sAK (wS_len σ s)
    have s0 : ∀ s l y, (wS σ s ++ l).set σ.length y = wS σ s ++ l.set 0 y := fun s l y => sS0 (wS_len σ s)
    have sk : ∀ s l y k, (wS σ s ++ l).set (σ.length + k) y = wS σ s ++ l.set k y := fun s l y k => sSK (wS_len σ s)
    have t0 : ∀ s l, (wS σ s ++ l).take σ.length = wS σ s := fun s l => sT0 (wS_len σ s)
    have tk : ∀ s l k, (wS σ s ++ l).take (σ.length + k) = wS σ s ++ l.take k := fun s l k => sTK (wS_len σ s)
    have tx : ∀ s, (wS σ s).take σ.length = wS σ s := fun s => sTX (wS_len σ s)
    have l10 : ∀ k, 10 < σ.length + k ∧ 9 < σ.length + k ∧ 8 < σ.length + k := fun k => by omega
    rw [call65]
    conv => arg 1; arg 7; unfold S22.c65 Try.f65; simp only [Option.getD_some]
    simp only [go_sem, wS_len, b9, b9n, b8, b10, bs9, g0, gk, s0, sk, t0, tk, tx]
    refine run_rangeL (c := L65_0) (live := [1, 2, 3, 4, 9, 10, 11]) (by simp only [go_sem]) (M := fun i1 (s1 : PS × Int) => [(1, .ptr 10 0), (2, .ptr 9 0), (3, .ptr 8 0), (4, .ptr σ.length 0), (9, .p (.sl none 2 (List.map row_Tree t.Kids))), (10, .p (iv (t.Kids.length : Int))), (11, .p (iv (i1 : Int)))]) (Z := fun i1 s1 => wS σ s1 ++ [.cells [.p (iv t.Sym), .p (.sl none 2 (List.map row_Tree t.Kids))]]) (N := fun s1 => ⟨[(2, .ptr 9 0), (3, .ptr 8 0), (4, .ptr σ.length 0)], wS σ s1 ++ [.cells [.p (iv t.Sym), .p (.sl none 2 (List.map row_Tree t.Kids))]], [], none, false⟩) h rfl rfl (fun _ _ => rfl) ?_ ?_ ?_
    · intro s1 h
      try dsimp only at h ⊢
      obtain ⟨p, e_p, h⟩ := ob h
      injection h with h; subst h
      have yy : ∀ i l, call Try.prog T H (.yld 7) [.p (iv i), .p (.agg [iv t.Sym, .sl none 2 (List.map row_Tree t.Kids)])] (wS σ (s1.1, w64 (s1.2 + 1)) ++ l) = some (.ret (.p (bv true)), wS σ (p, w64 (s1.2 + 1)) ++ l) := fun i l => yld_spec hE4 hE9 hEl n a w t (s1.1, w64 (s1.2 + 1)) p e_p i l
      simp only [go_sem, wS_len, b9, b9n, b8, b10, bs9, g0, gk, s0, sk, t0, tk, tx, yy]
      exact Sat.ok hQ
    · intro K1 s1 hb1 he1
      try dsimp only
      conv => arg 1; arg 7; unfold L65_0 loopAt S22.c65 Try.f65; simp only [loopIn, Option.getD_some, if_true]
      simp only [go_sem, he1, wS_len, b9, b9n, b8, b10, bs9, g0, gk, s0, sk, t0, tk, tx, l10]
      exact hb1
    · intro K1 k1 i1 x1 s1 n1 hR1 hE1 hb1 hx1 hi1 hw1 ih1 h
      try dsimp only at h ⊢
      conv => arg 1; arg 7; unfold L65_0 loopAt S22.c65 Try.f65; simp only [loopIn, Option.getD_some, if_true]
      obtain ⟨v2, e_v2, h⟩ := ob h
      have e_v2c : ∀ l, call Try.prog T H (.fn 65) [.p (.agg [iv x1.Sym, .sl none 2 (List.map row_Tree x1.Kids)]), .ptr 10 0, .ptr 9 0, .ptr 8 0] (wS σ s1 ++ l) = some (.ret (.p (bv true)), wS σ v2 ++ l) := fun l => by
        have q := ih (σ ++ l) (w.app l) x1 s1 v2 e_v2
        rw [← wS_app _ hl, ← wS_app _ hl] at q
        exact q
      simp only [go_sem, hx1, hi1, hw1, e_v2c, hR1, hE1, wS_len, b9, b9n, b8, b10, bs9, g0, gk, s0, sk, t0, tk, tx, l10]
      exact ih1 v2 h
end Rel
end Go.AM.S22

