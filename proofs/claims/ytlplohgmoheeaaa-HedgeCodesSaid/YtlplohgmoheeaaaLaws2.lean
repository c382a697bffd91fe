/- What the functions of this seat compute on the abstract machine, function by function, and the plain laws. -/
import Derived.Test.YtlplohgmoheeaaaLaws
set_option linter.unusedVariables false
set_option linter.unusedSimpArgs false
namespace Go.AM.S02
open Go Go.Proofs Go.AM
set_option linter.unusedVariables false
def ord (a b : Int) : Int := if a < b then -1 else if b < a then 1 else 0
theorem ord_range (a b : Int) : -1 ≤ ord a b ∧ ord a b ≤ 1 := by
  unfold ord; repeat' split
  all_goals omega
theorem ord_anti (a b : Int) : ord b a = - ord a b := by
  unfold ord; repeat' split
  all_goals omega
theorem ord_add (c a b : Int) : ord (c + a) (c + b) = ord a b := by
  unfold ord; repeat' split
  all_goals omega
def lexF (f : Node → Node → Int) : List Node → List Node → Int
  | [], [] => 0
  | [], _ :: _ => -1
  | _ :: _, [] => 1
  | a :: us, b :: bs => if f a b = 0 then lexF f us bs else f a b
def cmpF : Nat → Node → Node → Int
  | 0, _, _ => 0
  | n + 1, x, y => if ord (nsN x) (nsN y) = 0 then (if ord x.Label y.Label = 0 then lexF (cmpF n) x.Kids y.Kids else ord x.Label y.Label) else ord (nsN x) (nsN y)
theorem lexF_range {f : Node → Node → Int} (hf : ∀ a b, -1 ≤ f a b ∧ f a b ≤ 1) : ∀ us bs, -1 ≤ lexF f us bs ∧ lexF f us bs ≤ 1
  | [], [] => by rw [lexF]; omega
  | [], _ :: _ => by rw [lexF]; omega
  | _ :: _, [] => by rw [lexF]; omega
  | a :: us, b :: bs => by
    rw [lexF]
    split
    · exact lexF_range hf us bs
    · exact hf a b
theorem lexF_anti {f : Node → Node → Int} (hf : ∀ a b, f b a = - f a b) : ∀ us bs, lexF f bs us = - lexF f us bs
  | [], [] => by rw [lexF]; rfl
  | [], _ :: _ => by rw [lexF, lexF]; rfl
  | _ :: _, [] => by rw [lexF, lexF]
  | a :: us, b :: bs => by
    rw [lexF, lexF, hf a b]
    by_cases h : f a b = 0
    · rw [if_pos h, if_pos (by omega)]; exact lexF_anti hf us bs
    · rw [if_neg h, if_neg (by omega)]
theorem cmpF_range : ∀ n a b, -1 ≤ cmpF n a b ∧ cmpF n a b ≤ 1
  | 0, a, b => by rw [cmpF]; omega
  | n + 1, a, b => by
    rw [cmpF]
    split
    · split
      · exact lexF_range (cmpF_range n) _ _
      · exact ord_range _ _
    · exact ord_range _ _
theorem cmpF_anti : ∀ n a b, cmpF n b a = - cmpF n a b
  | 0, a, b => by rw [cmpF, cmpF]; rfl
  | n + 1, a, b => by
    rw [cmpF, cmpF, ord_anti (nsN a) (nsN b), ord_anti a.Label b.Label]
    by_cases h : ord (nsN a) (nsN b) = 0
    · rw [if_pos (by omega), if_pos h]
      by_cases h' : ord a.Label b.Label = 0
      · rw [if_pos (by omega), if_pos h']; exact lexF_anti (cmpF_anti n) _ _
      · rw [if_neg (by omega), if_neg h']
    · rw [if_neg (by omega), if_neg h]
mutual
def mzN : Node → hedge_sized
  | .mk l k => ⟨l, 1 + nsL k, mzL k⟩
def mzL : List Node → List hedge_sized
  | [] => []
  | x :: r => mzN x :: mzL r
end
theorem mzL_map : ∀ l : List Node, mzL l = l.map mzN
  | [] => by rw [mzL]; rfl
  | x :: r => by rw [mzL, mzL_map r]; rfl
theorem mzN_eq (x : Node) : mzN x = ⟨x.Label, 1 + nsN x, x.Kids.map mzN⟩ := by cases x; rw [mzN, mzL_map, nsN]
theorem measure_eq : ∀ (n : Nat) (x : Node), dN x < n → nsN x ≤ 100000 → hedge_measure n x = some (mzN x) := by
  intro n
  induction n with
  | zero => intro x hd; omega
  | succ n ih =>
    intro x hd hs
    have hk := len_ns x.Kids
    rw [nsN_eq] at hs
    rw [hedge_measure, rangeL, if_pos (by omega)]
    suffices H : ∀ (l : List Node) (i : Nat) (t : Int) (q : List hedge_sized) (k : Int × List hedge_sized → Option hedge_sized), dL l < n + 1 → 0 ≤ t → t + nsL l ≤ 1000000 → q.length + nsL l ≤ 1000000 → nsL l ≤ 100000 → rangeC (fun i1 x1 (s1 : Int × (List hedge_sized)) n1 => (hedge_measure n x1).bind fun v1 => (app 40 s1.2 [v1]).bind fun v2 => n1 (w64 (s1.1 + v1.size), v2)) l i (t, q) k = k (t + nsL l, q ++ l.map mzN) by
      rw [H x.Kids 0 1 [] _ (by rw [dN_eq] at hd; omega) (by omega) (by omega) (by simp only [List.length_nil]; omega) hs, mzN_eq, nsN_eq]
      rfl
    intro l
    induction l with
    | nil => intro i t q k _ _ _ _ _; rw [rangeC, nsL]; simp
    | cons y r ihr =>
      intro i t q k h1 h2 h3 h4 h5
      obtain ⟨d1, d2⟩ := dL_cons h1
      rw [nsL] at h3 h4 h5
      rw [rangeC, ih y (by rw [dN_eq]; exact d1) (by omega)]
      simp only [Option.bind_some]
      rw [app_ok (by simp only [List.length_cons, List.length_nil]; omega)]
      simp only [Option.bind_some]
      rw [mzN_eq]
      simp only []
      rw [w64_eq (by omega) (by omega), ihr _ _ _ _ d2 (by omega) (by omega) (by rw [List.length_append]; simp only [List.length_cons, List.length_nil]; omega) (by omega)]
      rw [nsL, List.map_cons, mzN_eq y, List.append_assoc]
      congr 2
      omega
theorem compare_int (a b : Int) : cmp_Compare_int a b = some (ord a b) := by
  unfold cmp_Compare_int cmp_isNaN_int ord
  simp only [bne_self_eq_false, Option.bind_some]
  rw [if_neg (by decide), if_neg (by decide)]
  split
  · rfl
  · split <;> rfl
theorem or_int (a b : Int) : cmp_Or_int [a, b] = some (if a = 0 then b else a) := by
  unfold cmp_Or_int rangeL
  rw [if_pos (by simp only [List.length_cons, List.length_nil]; omega)]
  simp only [rangeC]
  by_cases h : a = 0
  · rw [if_pos h, if_pos h]
    by_cases h' : b = 0
    · rw [if_pos h', h']
    · rw [if_neg h']
  · rw [if_neg h, if_neg h]
theorem hcompare_eq : ∀ (n : Nat) (x y : Node), dN x < n → nsN x ≤ 100000 → nsN y ≤ 100000 → hedge_compare n (mzN x) (mzN y) = some (cmpF n x y) := by
  intro n
  induction n with
  | zero => intro x y hd; omega
  | succ n ih =>
    intro x y hd hx hy
    have hk := len_ns x.Kids
    have hk' := len_ns y.Kids
    rw [hedge_compare, mzN_eq x, mzN_eq y]
    simp only []
    rw [compare_int, compare_int]
    simp only [Option.bind_some]
    rw [or_int, cmpF, ord_add]
    simp only [Option.bind_some]
    by_cases c1 : ord (nsN x) (nsN y) = 0
    · rw [if_pos c1, if_pos c1]
      by_cases c2 : ord x.Label y.Label = 0
      · rw [if_pos c2, if_pos c2]
        rw [nsN_eq] at hx hy
        simp only [jn]
        rw [rangeL, if_pos (by rw [List.length_map]; omega)]
        suffices H : ∀ (us bs pa pb : List Node), pa.length = pb.length → x.Kids = pa ++ us → y.Kids = pb ++ bs → dL us < n + 1 → nsL us ≤ 100000 → nsL bs ≤ 100000 → rangeC (fun i1 (x1 : hedge_sized) (s1 : Unit) n1 => if ((y.Kids.map mzN).length : Int) ≤ (i1 : Int) then some 1 else ((y.Kids.map mzN)[i1]?).bind fun v4 => (hedge_compare n x1 v4).bind fun v5 => if v5 = 0 then n1 () else some v5) (us.map mzN) pa.length () (fun _ => if ((x.Kids.map mzN).length : Int) < ((y.Kids.map mzN).length : Int) then some (-1) else some 0) = some (lexF (cmpF n) us bs) from
          H x.Kids y.Kids [] [] rfl rfl rfl (by rw [dN_eq] at hd; exact hd) hx hy
        intro us
        induction us with
        | nil =>
          intro bs pa pb e1 e2 e3 _ _ _
          rw [List.map_nil, rangeC, List.length_map, List.length_map, e2, e3]
          cases bs with
          | nil => rw [if_neg (by simp; omega), lexF]
          | cons b bs => rw [if_pos (by simp; omega), lexF]
        | cons a us iha =>
          intro bs pa pb e1 e2 e3 h1 h2 h3
          obtain ⟨d1, d2⟩ := dL_cons h1
          rw [nsL] at h2
          rw [List.map_cons, rangeC]
          cases bs with
          | nil => rw [if_pos (by rw [List.length_map, e3]; simp; omega), lexF]
          | cons b bs =>
            rw [nsL] at h3
            have hb : (y.Kids.map mzN)[pa.length]? = some (mzN b) := by rw [List.getElem?_map, e3, e1, List.getElem?_append_right (Nat.le_refl _), Nat.sub_self]; rfl
            rw [if_neg (by rw [List.length_map, e3]; simp; omega), hb]
            simp only [Option.bind_some]
            rw [ih a b (by rw [dN_eq]; exact d1) (by omega) (by omega), lexF]
            simp only [Option.bind_some]
            by_cases c : cmpF n a b = 0
            · rw [if_pos c, if_pos c]
              have := iha bs (pa ++ [a]) (pb ++ [b]) (by simp [e1]) (by simp [e2]) (by simp [e3]) d2 (by omega) (by omega)
              rw [List.length_append] at this
              exact this
            · rw [if_neg c, if_neg c]
      · rw [if_neg c2, if_neg c2]
    · rw [if_neg c1, if_neg c1, if_neg c1]
theorem order_eq (a b : Int) : ref02_order a b = some (ord a b) := by
  unfold ref02_order ord
  split
  · rfl
  · split <;> rfl
theorem rcompare_eq : ∀ (n : Nat) (x y : Node), dN x + 1 < n → dN y + 1 < n → nsN x ≤ 100000 → nsN y ≤ 100000 → ref02_Compare n x y = some (cmpF n x y) := by
  intro n
  induction n with
  | zero => intro x y hd; omega
  | succ n ih =>
    intro x y hd hd' hx hy
    have hk := len_ns x.Kids
    have hk' := len_ns y.Kids
    rw [dN_eq] at hd hd'
    rw [ref02_Compare, rsize_eq n x.Kids (by omega) (by rw [nsN_eq] at hx; omega), rsize_eq n y.Kids (by omega) (by rw [nsN_eq] at hy; omega)]
    simp only [Option.bind_some]
    rw [order_eq, order_eq, order_eq, cmpF, nsN_eq, nsN_eq]
    simp only [Option.bind_some]
    by_cases c1 : ord (nsL x.Kids) (nsL y.Kids) = 0
    · rw [if_pos c1, if_pos c1]
      by_cases c2 : ord x.Label y.Label = 0
      · rw [if_pos c2, if_pos c2]
        rw [nsN_eq] at hx hy
        have e0 : minI (x.Kids.length : Int) (y.Kids.length : Int) = ((min x.Kids.length y.Kids.length : Nat) : Int) := by unfold minI; split <;> omega
        rw [e0, rangeI, if_pos (by omega), Int.toNat_natCast]
        suffices H : ∀ (us bs pa pb : List Node), pa.length = pb.length → x.Kids = pa ++ us → y.Kids = pb ++ bs → dL us + 1 < n + 1 → dL bs + 1 < n + 1 → nsL us ≤ 100000 → nsL bs ≤ 100000 → rangeC (fun i1 (_ : Unit) (s1 : Unit) n1 => (x.Kids[i1]?).bind fun v6 => (y.Kids[i1]?).bind fun v7 => (ref02_Compare n v6 v7).bind fun v8 => if v8 = 0 then n1 () else some v8) (List.replicate (min us.length bs.length) ()) pa.length () (fun _ => some (ord (x.Kids.length : Int) (y.Kids.length : Int))) = some (lexF (cmpF n) us bs) from
          H x.Kids y.Kids [] [] rfl rfl rfl (by omega) (by omega) hx hy
        intro us
        induction us with
        | nil =>
          intro bs pa pb e1 e2 e3 _ _ _ _
          rw [List.length_nil, Nat.zero_min, List.replicate_zero, rangeC, e2, e3]
          unfold ord
          cases bs with
          | nil => rw [if_neg (by simp; omega), if_neg (by simp; omega), lexF]
          | cons b bs => rw [if_pos (by simp; omega), lexF]
        | cons a us iha =>
          intro bs pa pb e1 e2 e3 h1 h1' h2 h3
          have h4 := h1
          rw [dL, dN_eq] at h4
          rw [nsL] at h2
          cases bs with
          | nil =>
            rw [List.length_nil, Nat.min_zero, List.replicate_zero, rangeC, e2, e3]
            unfold ord
            rw [if_neg (by simp; omega), if_pos (by simp; omega), lexF]
          | cons b bs =>
            rw [nsL] at h3
            have h4' := h1'
            rw [dL, dN_eq] at h4'
            have ha : x.Kids[pa.length]? = some a := by rw [e2, List.getElem?_append_right (Nat.le_refl _), Nat.sub_self]; rfl
            have hb : y.Kids[pa.length]? = some b := by rw [e3, e1, List.getElem?_append_right (Nat.le_refl _), Nat.sub_self]; rfl
            rw [List.length_cons, List.length_cons, Nat.succ_min_succ, List.replicate_succ, rangeC, ha, hb]
            simp only [Option.bind_some]
            rw [ih a b (by rw [dN_eq]; omega) (by rw [dN_eq]; omega) (by omega) (by omega), lexF]
            simp only [Option.bind_some]
            by_cases c : cmpF n a b = 0
            · rw [if_pos c, if_pos c]
              have := iha bs (pa ++ [a]) (pb ++ [b]) (by simp [e1]) (by simp [e2]) (by simp [e3]) (by omega) (by omega) (by omega) (by omega)
              rw [List.length_append] at this
              exact this
            · rw [if_neg c, if_neg c]
      · rw [if_neg c2, if_neg c2]
    · rw [if_neg c1, if_neg c1]
theorem binary_eq (a : Int) : ∃ r : List Int, ∃ e : Int, hedge_Binary a = some (⟨r⟩, e) ∧ ref02_Binary a = some (⟨r⟩, e) ∧ ref01_List r r = some true := by
  by_cases h : 1 ≤ a ∧ a ≤ 8
  · have : a = 1 ∨ a = 2 ∨ a = 3 ∨ a = 4 ∨ a = 5 ∨ a = 6 ∨ a = 7 ∨ a = 8 := by omega
    rcases this with rfl | rfl | rfl | rfl | rfl | rfl | rfl | rfl
    · exact ⟨[2, 0], 0, rfl, rfl, rfl⟩
    · exact ⟨[2, 2, 0], 0, rfl, rfl, rfl⟩
    · exact ⟨[2, 2, 2, 0], 0, rfl, rfl, rfl⟩
    · exact ⟨[2, 2, 2, 2, 0], 0, rfl, rfl, rfl⟩
    · exact ⟨[2, 2, 2, 2, 2, 0], 0, rfl, rfl, rfl⟩
    · exact ⟨[2, 2, 2, 2, 2, 2, 0], 0, rfl, rfl, rfl⟩
    · exact ⟨[2, 2, 2, 2, 2, 2, 2, 0], 0, rfl, rfl, rfl⟩
    · exact ⟨[2, 2, 2, 2, 2, 2, 2, 2, 0], 0, rfl, rfl, rfl⟩
  · refine ⟨[], 6, ?_, ?_, rfl⟩
    · unfold hedge_Binary hedge_labels
      by_cases h1 : 1 ≤ a
      · rw [if_pos h1, decide_eq_false (by omega)]; rfl
      · rw [if_neg h1]; rfl
    · unfold ref02_Binary
      by_cases h1 : a < 1
      · rw [if_pos h1]
      · rw [if_neg h1, if_pos (by omega)]
theorem forms_law (m : Nat) (a : Int) (h : List Node) (x y : Node) (hdh : dL h + 2 < m + 10) (hdx : dN x + 2 < m + 10) (hdy : dN y + 2 < m + 10) (hlh : h.length < 9223372036854775808) (hwh : wdL h = true) (hw : wdL [x, y] = true) : law02_HedgeForms (m + 10) a h x y = some true := by
  have hwx : wdL [x] = true := by
    have := wdL_cons hw
    rw [wdL] at hw ⊢; simp only [Bool.and_eq_true] at hw ⊢; exact ⟨hw.1, by rw [wdL]⟩
  unfold law02_HedgeForms hedge_Valid ref02_Valid
  rw [few_eq (by omega) hlh hwh (by omega) (by omega), awake_eq]
  simp only [Option.bind_some]
  by_cases c1 : (nsL h : Int) ≤ 2000
  · rw [decide_eq_true c1]
    simp only [if_true]
    rw [few_eq (by rw [dL, dL_one]; omega) (by simp only [List.length_cons, List.length_nil]; omega) hw (by omega) (by omega)]
    simp only [Option.bind_some]
    by_cases c2 : (nsL [x, y] : Int) ≤ 2000
    · rw [decide_eq_true c2]
      simp only [if_true]
      rw [nsL, nsL, nsL] at c2
      obtain ⟨r, e, b1, b2, b3⟩ := binary_eq a
      rw [b1, b2, hvalid_eq (h := [x]) (by rw [dL_one]; omega) (by simp only [List.length_cons, List.length_nil]; omega) hwx, rvalid_eq (h := [x]) (by rw [dL_one]; omega) (by simp only [List.length_cons, List.length_nil]; omega) hwx,
        hvalid_eq (by omega) hlh hwh, rvalid_eq (by omega) hlh hwh, size_eq _ h (by omega) (by omega), rsize_eq _ h (by omega) (by omega)]
      have k1 : ∀ u v : Node, dN u + 2 < m + 10 → dN v + 2 < m + 10 → nsN u ≤ 2000 → nsN v ≤ 2000 → hedge_Compare (m + 10) u v = some (cmpF (m + 10) u v) := fun u v d1 d2 s1 s2 => by
        unfold hedge_Compare
        rw [measure_eq _ u (by omega) (by omega), measure_eq _ v (by omega) (by omega)]
        simp only [Option.bind_some]
        rw [hcompare_eq _ u v (by omega) (by omega) (by omega)]
        rfl
      rw [k1 x y hdx hdy (by omega) (by omega), k1 y x hdy hdx (by omega) (by omega), rcompare_eq _ x y (by omega) (by omega) (by omega) (by omega)]
      simp only [Option.bind_some, if_true, b3]
      have cr := cmpF_range (m + 10) x y
      rw [cmpF_anti (m + 10) x y, show IntKind.i64.wrap (0 - - cmpF (m + 10) x y) = cmpF (m + 10) x y by rw [wrapN] <;> omega]
      simp only [if_true]
    · rw [decide_eq_false c2]
      rfl
  · rw [decide_eq_false c1]
    rfl
end Go.AM.S02

namespace Go.AM.S02
open Go Go.Proofs Go.AM
theorem wt22 {n : Nat} {cs : List PV} (h : wt T n 22 cs) : ∃ xs : List Node, cs = [.sl none 2 (xs.map row_Node)] ∧ xs.length < 9223372036854775808 ∧ wdL xs = true := by
  obtain ⟨xs, e, hl, hx⟩ := wt_slM (row := row_Node) (P := fun x => wdN x = true) d22 h (fun m r _ hr => wt24 m r hr)
  exact ⟨xs, by rw [e, sz24], hl, wdL_all hx⟩
theorem law6 (pss : List (List PV)) (h : wtAll T [3, 22, 24, 24] pss) : ∃ σ', call Try.prog T H (.fn 6) (argsOf T [3, 22, 24, 24] pss) [] = some (.ret (.p (.lit (.bool true))), σ') := by
  obtain ⟨p1, r1, rfl, ⟨n1, w1⟩, p2, r2, rfl, ⟨n2, w2⟩, p3, r3, rfl, ⟨n3, w3⟩, p4, r4, rfl, ⟨n4, w4⟩, rfl⟩ := h
  obtain ⟨a, rfl, _⟩ := wt_int d3 w1
  obtain ⟨h, rfl, hl, hh⟩ := wt22 w2
  obtain ⟨x, rfl, hx⟩ := wt24 n3 p3 w3
  obtain ⟨y, rfl, hy⟩ := wt24 n4 p4 w4
  have := spec6 (dL h + dN x + dN y + 10) a h x y true (forms_law (dL h + dN x + dN y) a h x y (by omega) (by omega) (by omega) hl hh (by rw [wdL, wdL, hx, hy, wdL]; rfl))
  rw [row_Node_eq, row_Node_eq]
  exact ⟨[], this⟩
end Go.AM.S02

namespace Go.AM.S02
open Go Go.Proofs Go.AM
set_option linter.unusedVariables false
mutual
def tsT : Tree → Nat
  | .mk _ k => 1 + tsL k
def tsL : List Tree → Nat
  | [] => 0
  | x :: r => tsT x + tsL r
end
mutual
def tdT : Tree → Nat
  | .mk _ k => tdL k
def tdL : List Tree → Nat
  | [] => 0
  | x :: r => max (tdT x + 1) (tdL r)
end
mutual
def twT : Tree → Bool
  | .mk _ k => decide (k.length < 9223372036854775808) && twL k
def twL : List Tree → Bool
  | [] => true
  | x :: r => twT x && twL r
end
mutual
def shT (a : Int) : Tree → Bool
  | .mk s k => decide ((0 ≤ s ∧ s < a ∧ k.length = 2) ∨ (s = a ∧ k.length = 0)) && shL a k
def shL (a : Int) : List Tree → Bool
  | [] => true
  | x :: r => shT a x && shL a r
end
theorem tsT_eq (t : Tree) : tsT t = 1 + tsL t.Kids := by cases t; rw [tsT]
theorem tdT_eq (t : Tree) : tdT t = tdL t.Kids := by cases t; rw [tdT]
theorem twT_eq (t : Tree) : twT t = (decide (t.Kids.length < 9223372036854775808) && twL t.Kids) := by cases t; rw [twT]
theorem shT_eq (a : Int) (t : Tree) : shT a t = (decide ((0 ≤ t.Sym ∧ t.Sym < a ∧ t.Kids.length = 2) ∨ (t.Sym = a ∧ t.Kids.length = 0)) && shL a t.Kids) := by cases t; rw [shT]
theorem tlen : ∀ l : List Tree, l.length ≤ tsL l
  | [] => Nat.zero_le _
  | x :: r => by rw [tsL, List.length_cons, tsT_eq]; have := tlen r; omega
theorem tdL_cons {x : Tree} {r : List Tree} {n : Nat} (h : tdL (x :: r) < n + 1) : tdT x < n ∧ tdL r < n + 1 := by rw [tdL] at h; omega
mutual
theorem td_le : ∀ t : Tree, tdT t + 1 ≤ tsT t
  | .mk s k => by rw [tdT, tsT]; have := tdL_le k; omega
theorem tdL_le : ∀ l : List Tree, tdL l ≤ tsL l
  | [] => by rw [tdL, tsL]; exact Nat.le_refl _
  | x :: r => by rw [tdL, tsL]; have := td_le x; have := tdL_le r; omega
end
mutual
theorem d_le : ∀ x : Node, dN x ≤ nsN x
  | .mk s k => by rw [dN, nsN]; exact dL_le k
theorem dL_le : ∀ l : List Node, dL l ≤ nsL l
  | [] => by rw [dL, nsL]; exact Nat.le_refl _
  | x :: r => by rw [dL, nsL]; have := d_le x; have := dL_le r; omega
end
theorem tcount_eq : ∀ (n : Nat) (t : Tree) (m : Int), tdT t < n → twT t = true → 0 ≤ m → m ≤ 1000000 → ref01_count n t m = some (min (tsT t : Int) (m + 1)) := by
  intro n
  induction n with
  | zero => intro t m hd; omega
  | succ n ih =>
    intro t m hd hw h1 h2
    rw [twT_eq] at hw
    simp only [Bool.and_eq_true, decide_eq_true_eq] at hw
    rw [tdT_eq] at hd
    rw [ref01_count, rangeL, if_pos hw.1]
    suffices H : ∀ (l : List Tree) (i : Nat) (c : Nat) (k : Int → Option Int), 1 ≤ c → tdL l < n + 1 → twL l = true → rangeC (fun i1 x1 (s1 : Int) n1 => if s1 ≤ m then (ref01_count n x1 (w64 (m - s1))).bind fun v1 => n1 (w64 (s1 + v1)) else n1 s1) l i (min (c : Int) (m + 1)) k = k (min ((c + tsL l : Nat) : Int) (m + 1)) by
      have := H t.Kids 0 1 (fun s => some s) (by omega) hd hw.2
      rw [show min ((1 : Nat) : Int) (m + 1) = 1 by omega] at this
      rw [this, tsT_eq]
    intro l
    induction l with
    | nil => intro i c k _ _ _; rw [rangeC, tsL]; rfl
    | cons x r ihr =>
      intro i c k hc hd hw
      obtain ⟨d1, d2⟩ := tdL_cons hd
      rw [twL, Bool.and_eq_true] at hw
      rw [rangeC]
      by_cases cc : min (c : Int) (m + 1) ≤ m
      · rw [if_pos cc]
        have e : min (c : Int) (m + 1) = c := by omega
        rw [e, w64_eq (n := m - c) (by omega) (by omega), ih x _ d1 hw.1 (by omega) (by omega)]
        show rangeC _ r (i + 1) (w64 (c + min (tsT x : Int) (m - c + 1))) k = _
        rw [w64_eq (by omega) (by omega)]
        have := ihr (i + 1) (c + tsT x) k (by omega) d2 hw.2
        rw [show (c : Int) + min (tsT x : Int) (m - c + 1) = min ((c + tsT x : Nat) : Int) (m + 1) by omega, this, tsL]
        congr 2; omega
      · rw [if_neg cc]
        show rangeC _ r (i + 1) (min (c : Int) (m + 1)) k = _
        have := ihr (i + 1) (c + tsT x) k (by omega) d2 hw.2
        rw [show min (c : Int) (m + 1) = min ((c + tsT x : Nat) : Int) (m + 1) by omega, this, tsL]
        congr 2; omega
theorem tfew_eq {n : Nat} {t : Tree} {m : Int} (hd : tdT t < n) (hw : twT t = true) (h1 : 0 ≤ m) (h2 : m ≤ 1000000) : ref01_Few n t m = some (decide ((tsT t : Int) ≤ m)) := by
  rw [ref01_Few, tcount_eq n t m hd hw h1 h2]
  show some _ = some _
  congr 1
  exact decide_eq_decide.2 (by omega)
/-- the binary alphabet -/
structure BA (a : Int) (r : List Int) : Prop where
  len : (r.length : Int) = a + 1
  get : ∀ s, 0 ≤ s → s ≤ a → idx r s = some (if s < a then 2 else 0)
theorem tformed_eq {a : Int} {r : List Int} (hr : BA a r) (ha : 1 ≤ a ∧ a ≤ 8) : ∀ (n : Nat) (t : Tree) (m : Int), tdT t < n → 0 ≤ m → m ≤ 1000000 →
    (((tsT t : Int) ≤ m ∧ shT a t = true) ∧ tree_formed n ⟨r⟩ t m = some (true, m - tsT t)) ∨ (¬ ((tsT t : Int) ≤ m ∧ shT a t = true) ∧ ∃ v, tree_formed n ⟨r⟩ t m = some (false, v)) := by
  intro n
  induction n with
  | zero => intro t m hd; omega
  | succ n ih =>
    intro t m hd h1 h2
    rw [tree_formed, shT_eq, tsT_eq]
    simp only [Bool.and_eq_true, decide_eq_true_eq]
    have hl := hr.len
    have e1 : w64 (m - 1) = m - 1 := w64_eq (by omega) (by omega)
    rw [e1]
    by_cases c1 : m - 1 < 0
    · exact .inr ⟨by omega, _, by rw [if_pos c1]⟩
    rw [if_neg c1]
    by_cases c2 : t.Sym < 0
    · exact .inr ⟨by omega, _, by rw [if_pos c2]⟩
    rw [if_neg c2]
    by_cases c3 : (r.length : Int) ≤ t.Sym
    · exact .inr ⟨by omega, _, by rw [if_pos c3]⟩
    rw [if_neg c3, hr.get _ (by omega) (by omega)]
    simp only [Option.bind_some]
    by_cases c4 : (t.Kids.length : Int) = if t.Sym < a then 2 else 0
    · rw [if_pos c4]
      have c5 : (0 ≤ t.Sym ∧ t.Sym < a ∧ t.Kids.length = 2) ∨ (t.Sym = a ∧ t.Kids.length = 0) := by split at c4 <;> omega
      rw [rangeL, if_pos (by omega)]
      rw [tdT_eq] at hd
      suffices H : ∀ (l : List Tree) (i : Nat) (s : Int), tdL l < n + 1 → 0 ≤ s → s ≤ 1000000 →
        (((tsL l : Int) ≤ s ∧ shL a l = true) ∧ ∀ k : Int → Option (Bool × Int), rangeC (fun i1 x1 (s1 : Int) n1 => (tree_formed n ⟨r⟩ x1 s1).bind fun v2 => if v2.1 = true then n1 v2.2 else some (false, v2.2)) l i s k = k (s - tsL l)) ∨
        (¬ ((tsL l : Int) ≤ s ∧ shL a l = true) ∧ ∃ v, ∀ k : Int → Option (Bool × Int), rangeC (fun i1 x1 (s1 : Int) n1 => (tree_formed n ⟨r⟩ x1 s1).bind fun v2 => if v2.1 = true then n1 v2.2 else some (false, v2.2)) l i s k = some (false, v)) by
        rcases H t.Kids 0 (m - 1) hd (by omega) (by omega) with ⟨c, e⟩ | ⟨c, v, e⟩
        · exact .inl ⟨⟨by omega, c5, c.2⟩, by rw [e]; congr 2; omega⟩
        · exact .inr ⟨fun hh => c ⟨by omega, hh.2.2⟩, v, e _⟩
      intro l
      induction l with
      | nil => intro i s _ h1 h2; exact .inl ⟨⟨by rw [tsL]; exact h1, by rw [shL]⟩, fun k => by rw [rangeC, tsL]; congr 1; simp⟩
      | cons x q ihr =>
        intro i s hd h1 h2
        obtain ⟨d1, d2⟩ := tdL_cons hd
        rw [tsL, shL]
        simp only [Bool.and_eq_true, rangeC]
        rcases ih x s d1 h1 h2 with ⟨c, e⟩ | ⟨c, v, e⟩
        · rcases ihr (i + 1) (s - tsT x) d2 (by omega) (by omega) with ⟨c', e'⟩ | ⟨c', v, e'⟩
          · exact .inl ⟨⟨by omega, c.2, c'.2⟩, fun k => by rw [e]; simp only [Option.bind_some, if_true]; rw [e' k]; congr 1; omega⟩
          · exact .inr ⟨fun hh => c' ⟨by omega, hh.2.2⟩, v, fun k => by rw [e]; simp only [Option.bind_some, if_true]; rw [e' k]⟩
        · exact .inr ⟨fun hh => c ⟨by omega, hh.2.1⟩, v, fun k => by rw [e]; rfl⟩
    · rw [if_neg c4]
      refine .inr ⟨fun hh => c4 ?_, _, rfl⟩
      rcases hh.2.1 with h | h
      · rw [if_pos h.2.1]; omega
      · rw [if_neg (by omega)]; omega
theorem shaped_eq {a : Int} {r : List Int} (hr : BA a r) (ha : 1 ≤ a ∧ a ≤ 8) : ∀ (n : Nat) (t : Tree), tdT t < n → ref01_shaped n ⟨r⟩ t = some (shT a t) := by
  intro n
  induction n with
  | zero => intro t hd; omega
  | succ n ih =>
    intro t hd
    rw [ref01_shaped, shT_eq]
    have hl := hr.len
    by_cases c2 : t.Sym < 0
    · rw [if_pos c2, decide_eq_false (by omega)]; rfl
    rw [if_neg c2]
    by_cases c3 : (r.length : Int) ≤ t.Sym
    · simp only [] at c3 ⊢
      rw [if_pos c3, decide_eq_false (by omega)]; rfl
    rw [if_neg c3, hr.get _ (by omega) (by omega)]
    simp only [Option.bind_some]
    by_cases c4 : (t.Kids.length : Int) = if t.Sym < a then 2 else 0
    · rw [if_pos c4]
      have c5 : (0 ≤ t.Sym ∧ t.Sym < a ∧ t.Kids.length = 2) ∨ (t.Sym = a ∧ t.Kids.length = 0) := by split at c4 <;> omega
      rw [rangeL, if_pos (by omega), decide_eq_true c5, Bool.true_and]
      rw [tdT_eq] at hd
      suffices H : ∀ (l : List Tree) (i : Nat), tdL l < n + 1 → rangeC (fun i1 x1 (s1 : Unit) n1 => (ref01_shaped n ⟨r⟩ x1).bind fun v2 => if v2 = true then n1 () else some false) l i () (fun _ => some true) = some (shL a l) from H t.Kids 0 hd
      intro l
      induction l with
      | nil => intro i _; rw [rangeC, shL]
      | cons x q ihr =>
        intro i hd
        obtain ⟨d1, d2⟩ := tdL_cons hd
        rw [rangeC, ih x d1, shL]
        simp only [Option.bind_some]
        cases shT a x with
        | true => rw [if_pos rfl, ihr (i + 1) d2]; rfl
        | false => rfl
    · rw [if_neg c4, decide_eq_false]; rfl
      intro hh
      apply c4
      rcases hh with h | h
      · rw [if_pos h.2.1]; omega
      · rw [if_neg (by omega)]; omega
theorem bin_BA {a : Int} (h : 1 ≤ a ∧ a ≤ 8) : ∃ r : List Int, hedge_Binary a = some (⟨r⟩, 0) ∧ ref02_Alphabet a = some ⟨r⟩ ∧ tree_ValidAlphabet ⟨r⟩ = some true ∧ ref01_ValidAlphabet ⟨r⟩ = some true ∧ BA a r := by
  have : a = 1 ∨ a = 2 ∨ a = 3 ∨ a = 4 ∨ a = 5 ∨ a = 6 ∨ a = 7 ∨ a = 8 := by omega
  have key : ∀ (m : Nat), ((List.replicate m (2 : Int) ++ [0]).length : Int) = m + 1 ∧ ∀ s : Int, 0 ≤ s → s ≤ m → idx (List.replicate m (2 : Int) ++ [0]) s = some (if s < m then 2 else 0) := fun m => by
    refine ⟨by simp, fun s h1 h2 => ?_⟩
    unfold idx
    rw [if_pos h1]
    by_cases c : s < m
    · rw [if_pos c, List.getElem?_append_left (by simp; omega), List.getElem?_replicate, if_pos (by omega)]
    · rw [if_neg c, List.getElem?_append_right (by simp; omega)]
      have : s.toNat - (List.replicate m (2 : Int)).length = 0 := by simp; omega
      rw [this]; rfl
  rcases this with rfl | rfl | rfl | rfl | rfl | rfl | rfl | rfl
  · exact ⟨[2, 0], rfl, rfl, rfl, rfl, (key 1).1, (key 1).2⟩
  · exact ⟨[2, 2, 0], rfl, rfl, rfl, rfl, (key 2).1, (key 2).2⟩
  · exact ⟨[2, 2, 2, 0], rfl, rfl, rfl, rfl, (key 3).1, (key 3).2⟩
  · exact ⟨[2, 2, 2, 2, 0], rfl, rfl, rfl, rfl, (key 4).1, (key 4).2⟩
  · exact ⟨[2, 2, 2, 2, 2, 0], rfl, rfl, rfl, rfl, (key 5).1, (key 5).2⟩
  · exact ⟨[2, 2, 2, 2, 2, 2, 0], rfl, rfl, rfl, rfl, (key 6).1, (key 6).2⟩
  · exact ⟨[2, 2, 2, 2, 2, 2, 2, 0], rfl, rfl, rfl, rfl, (key 7).1, (key 7).2⟩
  · exact ⟨[2, 2, 2, 2, 2, 2, 2, 2, 0], rfl, rfl, rfl, rfl, (key 8).1, (key 8).2⟩
def tvld (a : Int) (t : Tree) : Bool := decide ((tsT t : Int) ≤ 300) && shT a t
theorem tvalid_eq {a : Int} {r : List Int} (hr : BA a r) (ha : 1 ≤ a ∧ a ≤ 8) (hv : tree_ValidAlphabet ⟨r⟩ = some true) {n : Nat} {t : Tree} (hd : tdT t < n) : tree_Valid n ⟨r⟩ t = some (tvld a t) := by
  unfold tree_Valid tvld
  rw [hv]
  simp only [Option.bind_some, if_true]
  rcases tformed_eq hr ha n t 300 hd (by omega) (by omega) with ⟨c, e⟩ | ⟨c, v, e⟩
  · rw [e, decide_eq_true c.1, c.2]; rfl
  · rw [e]
    simp only [Option.bind_some]
    congr 1
    cases h1 : shT a t with
    | false => simp
    | true => rw [decide_eq_false (fun h2 => c ⟨h2, h1⟩)]; rfl
theorem rtvalid_eq {a : Int} {r : List Int} (hr : BA a r) (ha : 1 ≤ a ∧ a ≤ 8) (hv : ref01_ValidAlphabet ⟨r⟩ = some true) {n : Nat} {t : Tree} (hd : tdT t < n) (hw : twT t = true) : ref01_Valid n ⟨r⟩ t = some (tvld a t) := by
  unfold ref01_Valid tvld
  rw [hv]
  simp only [Option.bind_some, if_true]
  rw [tfew_eq hd hw (by omega) (by omega)]
  simp only [Option.bind_some]
  by_cases c3 : (tsT t : Int) ≤ 300
  · rw [decide_eq_true c3, if_pos rfl, shaped_eq hr ha n t hd]; rfl
  · rw [decide_eq_false c3]; rfl
end Go.AM.S02

namespace Go.AM.S02
open Go Go.Proofs Go.AM
set_option linter.unusedVariables false
mutual
def cdN (a : Int) : Node → Tree → Tree
  | .mk l k, s => ⟨l, [cdL a k, s]⟩
def cdL (a : Int) : List Node → Tree
  | [] => ⟨a, []⟩
  | x :: r => cdN a x (cdL a r)
end
mutual
def unT (a : Int) : Tree → List Node
  | .mk s k => if s = a then [] else unL a s k
def unL (a : Int) (s : Int) : List Tree → List Node
  | [x, y] => ⟨s, unT a x⟩ :: unT a y
  | _ => []
end
theorem cdL_cons (a : Int) (x : Node) (r : List Node) : cdL a (x :: r) = ⟨x.Label, [cdL a x.Kids, cdL a r]⟩ := by rw [cdL]; cases x; rw [cdN]
theorem mem_le : ∀ {l : List Node} {x : Node}, x ∈ l → dL x.Kids + 1 ≤ dL l ∧ nsL x.Kids + 1 ≤ nsL l
  | y :: r, x, h => by
    rw [dL, nsL, dN_eq, nsN_eq]
    rcases List.mem_cons.1 h with rfl | h
    · omega
    · have := mem_le h; omega
theorem encL_eq {f : List Node → Option Tree} {a : Int} : ∀ (l r : List Node), (∀ x, x ∈ l → f x.Kids = some (cdL a x.Kids)) → encL f l (cdL a r) = some (cdL a (l.reverse ++ r))
  | [], r, _ => by rw [encL]; rfl
  | x :: l, r, h => by
    rw [encL, h x (by simp)]
    simp only [Option.bind_some]
    rw [← cdL_cons, encL_eq l (x :: r) (fun y hy => h y (List.mem_cons_of_mem _ hy)), List.reverse_cons, List.append_assoc]
    rfl
theorem encode_eq : ∀ (n : Nat) (a : Int) (h : List Node), dL h < n → nsL h ≤ 100000 → hedge_encode n a h = some (cdL a h) := by
  intro n
  induction n with
  | zero => intro a h hd; omega
  | succ n ih =>
    intro a h hd hs
    have := len_ns h
    rw [hedge_encode, if_pos (by omega)]
    have e := encL_eq (f := hedge_encode n a) (a := a) h.reverse [] (fun x hx => by
      have := mem_le (List.mem_reverse.1 hx)
      exact ih a x.Kids (by omega) (by omega))
    rw [cdL, List.reverse_reverse, List.append_nil] at e
    exact e
theorem code_eq : ∀ (n : Nat) (a : Int) (h : List Node), nsL h < n → nsL h ≤ 100000 → ref02_Code n a h = some (cdL a h) := by
  intro n
  induction n with
  | zero => intro a h hd; omega
  | succ n ih =>
    intro a h hd hs
    rw [ref02_Code]
    cases h with
    | nil => rw [if_pos (show ((([] : List Node).length : Int)) = 0 from rfl), cdL]
    | cons x r =>
      rw [nsL_cons] at hd hs
      have := len_ns r
      have e : slcF (x :: r) 1 = some r := by
        unfold slcF
        first | rw [if_pos (by simp only [List.length_cons]; omega)]; rfl | simp
      rw [if_neg (by simp only [List.length_cons]; omega), e]
      simp only [List.getElem?_cons_zero, Option.bind_some]
      rw [ih a x.Kids (by omega) (by omega), ih a r (by omega) (by omega), cdL_cons]
      rfl
theorem sh_cases {a : Int} {t : Tree} (h : shT a t = true) : t = ⟨a, []⟩ ∨ ∃ s x y, t = ⟨s, [x, y]⟩ ∧ 0 ≤ s ∧ s < a ∧ shT a x = true ∧ shT a y = true := by
  obtain ⟨s, k⟩ := t
  rw [shT] at h
  simp only [Bool.and_eq_true, decide_eq_true_eq] at h
  obtain ⟨h1 | h1, h2⟩ := h
  · match k, h1.2.2, h2 with
    | [x, y], _, h2 =>
      rw [shL, shL, shL] at h2
      simp only [Bool.and_eq_true] at h2
      exact .inr ⟨s, x, y, rfl, h1.1, h1.2.1, h2.1, h2.2.1⟩
  · obtain ⟨rfl, h1⟩ := h1
    rw [List.length_eq_zero_iff.1 h1]
    exact .inl rfl
theorem un_leaf (a : Int) : unT a ⟨a, []⟩ = [] := by rw [unT, if_pos rfl]
theorem un_node {a s : Int} {x y : Tree} (h : s < a) : unT a ⟨s, [x, y]⟩ = ⟨s, unT a x⟩ :: unT a y := by rw [unT, if_neg (by omega), unL]
theorem ts_leaf (a : Int) : tsT ⟨a, []⟩ = 1 := by rw [tsT, tsL]
theorem ts_node (s : Int) (x y : Tree) : tsT ⟨s, [x, y]⟩ = 1 + tsT x + tsT y := by rw [tsT, tsL, tsL, tsL]; omega
theorem un_all {a : Int} : ∀ (n : Nat) (t : Tree), tsT t < n → shT a t = true → 2 * nsL (unT a t) + 1 = tsT t ∧ labL a (unT a t) = true ∧ cdL a (unT a t) = t := by
  intro n
  induction n with
  | zero => intro t h; omega
  | succ n ih =>
    intro t h hs
    rcases sh_cases hs with rfl | ⟨s, x, y, rfl, h0, h1, hx, hy⟩
    · rw [un_leaf, ts_leaf, nsL, labL, cdL]; exact ⟨rfl, rfl, rfl⟩
    · rw [ts_node] at h ⊢
      obtain ⟨a1, a2, a3⟩ := ih x (by omega) hx
      obtain ⟨b1, b2, b3⟩ := ih y (by omega) hy
      rw [un_node h1, nsL_cons, labL_cons, cdL_cons]
      simp only []
      rw [a2, b2, a3, b3, decide_eq_true ⟨h0, h1⟩]
      exact ⟨by omega, rfl, rfl⟩
theorem cd_all {a : Int} : ∀ (n : Nat) (h : List Node), nsL h < n → labL a h = true → tsT (cdL a h) = 2 * nsL h + 1 ∧ shT a (cdL a h) = true ∧ unT a (cdL a h) = h := by
  intro n
  induction n with
  | zero => intro t h; omega
  | succ n ih =>
    intro h hn hl
    cases h with
    | nil =>
      rw [cdL, ts_leaf, un_leaf, nsL, shT, shL]
      exact ⟨rfl, by simp, rfl⟩
    | cons x r =>
      rw [nsL_cons] at hn
      rw [labL_cons] at hl
      simp only [Bool.and_eq_true, decide_eq_true_eq] at hl
      obtain ⟨a1, a2, a3⟩ := ih x.Kids (by omega) hl.1.2
      obtain ⟨b1, b2, b3⟩ := ih r (by omega) hl.2
      rw [cdL_cons, ts_node, un_node hl.1.1.2, nsL_cons, shT, shL, shL, shL, a2, b2, a3, b3]
      refine ⟨by omega, ?_, by cases x; rfl⟩
      simp only [Bool.and_true, decide_eq_true_eq]
      exact .inl ⟨hl.1.1.1, hl.1.1.2, rfl⟩
theorem unpack_eq : ∀ (n : Nat) (a : Int) (t : Tree), tsT t < n → tsT t ≤ 100000 → shT a t = true → hedge_Unpack n a t = some (unT a t) := by
  intro n
  induction n with
  | zero => intro a h hd; omega
  | succ n ih =>
    intro a t hd hs hsh
    rw [hedge_Unpack, whileL]
    suffices H : ∀ (j : Nat) (t : Tree) (acc : List Node), shT a t = true → tsT t ≤ j → tsT t ≤ n → acc.length + tsT t ≤ 1000000 → tsT t ≤ 100000 → whileC (fun (s1 : (List Node) × Int × (List Tree)) n1 => if s1.2.1 = a then some (s1.1, s1.2.1, s1.2.2).1 else (s1.2.2[0]?).bind fun v1 => (hedge_Unpack n a v1).bind fun v2 => (app 32 s1.1 [(Node.mk s1.2.1 v2)]).bind fun v3 => (s1.2.2[1]?).bind fun v4 => n1 (v3, v4.Sym, v4.Kids)) j (acc, t.Sym, t.Kids) = some (acc ++ unT a t) from
      H n t [] hsh (by omega) (by omega) (by rw [List.length_nil]; omega) hs
    intro j
    induction j with
    | zero => intro t acc hh h1; rw [tsT_eq] at h1; omega
    | succ j ihj =>
      intro t acc hh h1 h2 h3 h4
      rw [whileC]
      rcases sh_cases hh with rfl | ⟨s, x, y, rfl, h0, h0', hx, hy⟩
      · simp only []
        rw [if_pos trivial, un_leaf, List.append_nil]
      · rw [ts_node] at h1 h2 h3 h4
        simp only []
        rw [if_neg (by omega)]
        simp only [List.getElem?_cons_zero, List.getElem?_cons_succ, Option.bind_some]
        rw [ih a x (by omega) (by omega) hx]
        simp only [Option.bind_some]
        rw [app_ok (by simp only [List.length_cons, List.length_nil]; omega)]
        simp only [Option.bind_some]
        rw [ihj y _ hy (by omega) (by omega) (by rw [List.length_append]; simp only [List.length_cons, List.length_nil]; omega) (by omega), un_node h0', List.append_assoc]
        rfl
theorem uncode_eq : ∀ (n : Nat) (a : Int) (t : Tree), tsT t < n → tsT t ≤ 100000 → shT a t = true → ref02_Uncode n a t = some (unT a t) := by
  intro n
  induction n with
  | zero => intro a h hd; omega
  | succ n ih =>
    intro a t hd hs hsh
    rw [ref02_Uncode]
    rcases sh_cases hsh with rfl | ⟨s, x, y, rfl, h0, h0', hx, hy⟩
    · simp only []
      rw [if_pos trivial, un_leaf]
    · rw [ts_node] at hd hs
      simp only []
      rw [if_neg (by omega)]
      simp only [List.getElem?_cons_zero, List.getElem?_cons_succ, Option.bind_some]
      rw [ih a x (by omega) (by omega) hx, ih a y (by omega) (by omega) hy]
      simp only [Option.bind_some]
      have := (un_all (a := a) (tsT y + 1) y (by omega) hy).1
      have := len_ns (unT a y)
      rw [app_ok (by simp only [List.length_cons, List.length_nil]; omega), un_node h0']
      rfl
theorem tsame_refl : ∀ (n : Nat) (t : Tree), tdT t < n → tsT t ≤ 1000000 → ref01_Same n t t = some true := by
  intro n
  induction n with
  | zero => intro t hd; omega
  | succ n ih =>
    intro t hd hs
    rw [tdT_eq] at hd
    rw [tsT_eq] at hs
    have := tlen t.Kids
    rw [ref01_Same, if_pos rfl, if_pos rfl, rangeL, if_pos (by omega)]
    suffices H : ∀ (l p : List Tree), t.Kids = p ++ l → tdL l < n + 1 → tsL l ≤ 1000000 → rangeC (fun i1 x1 (s1 : Unit) n1 => (t.Kids[i1]?).bind fun v1 => (ref01_Same n x1 v1).bind fun v2 => if v2 = true then n1 () else some false) l p.length () (fun _ => some true) = some true from H t.Kids [] rfl hd (by omega)
    intro l
    induction l with
    | nil => intro p _ _ _; rw [rangeC]
    | cons x r ihr =>
      intro p e h1 h2
      obtain ⟨d1, d2⟩ := tdL_cons h1
      rw [tsL] at h2
      have hx : t.Kids[p.length]? = some x := by rw [e, List.getElem?_append_right (Nat.le_refl _), Nat.sub_self]; rfl
      rw [rangeC, hx]
      simp only [Option.bind_some]
      rw [ih x d1 (by omega)]
      simp only [Option.bind_some, if_true]
      have := ihr (p ++ [x]) (by rw [e]; simp) d2 (by omega)
      rw [List.length_append] at this
      exact this
theorem hsame_refl : ∀ (n : Nat) (h : List Node), dL h < n → nsL h ≤ 1000000 → ref02_Same n h h = some true := by
  intro n
  induction n with
  | zero => intro t hd; omega
  | succ n ih =>
    intro h hd hs
    have := len_ns h
    rw [ref02_Same, if_pos rfl, rangeL, if_pos (by omega)]
    suffices H : ∀ (l p : List Node), h = p ++ l → dL l < n + 1 → nsL l ≤ 1000000 → rangeC (fun i1 (x1 : Node) (s1 : Unit) n1 => (h[i1]?).bind fun v1 => if x1.Label = v1.Label then (ref02_Same n x1.Kids v1.Kids).bind fun v2 => if v2 = true then n1 () else some false else some false) l p.length () (fun _ => some true) = some true from H h [] rfl hd (by omega)
    intro l
    induction l with
    | nil => intro p _ _ _; rw [rangeC]
    | cons x r ihr =>
      intro p e h1 h2
      obtain ⟨d1, d2⟩ := dL_cons h1
      rw [nsL_cons] at h2
      have hx : h[p.length]? = some x := by rw [e, List.getElem?_append_right (Nat.le_refl _), Nat.sub_self]; rfl
      rw [rangeC, hx]
      simp only [Option.bind_some, if_true]
      rw [ih x.Kids d1 (by omega)]
      simp only [Option.bind_some, if_true]
      have := ihr (p ++ [x]) (by rw [e]; simp) d2 (by omega)
      rw [List.length_append] at this
      exact this
def encP (a : Int) (h : List Node) : Tree × Int := if vld a h = true then (if (300 : Int) < 2 * nsL h + 1 then (⟨0, []⟩, 3) else (cdL a h, 0)) else (⟨0, []⟩, 1)
def decP (a : Int) (t : Tree) : List Node × Int := if 1 ≤ a ∧ a ≤ 8 then (if tvld a t = true then (unT a t, 0) else ([], 1)) else ([], 6)
theorem vld_le {a : Int} {h : List Node} (c : vld a h = true) : (1 ≤ a ∧ a ≤ 8) ∧ nsL h ≤ 300 ∧ labL a h = true := by
  unfold vld at c
  simp only [Bool.and_eq_true, decide_eq_true_eq] at c
  exact ⟨c.1, by omega, c.2.2⟩
theorem tvld_le {a : Int} {t : Tree} (c : tvld a t = true) : tsT t ≤ 300 ∧ shT a t = true := by
  unfold tvld at c
  simp only [Bool.and_eq_true, decide_eq_true_eq] at c
  exact ⟨by omega, c.2⟩
theorem enc_eq {n : Nat} {a : Int} {h : List Node} (hd : dL h < n) (hn : 1000 ≤ n) (hl : h.length < 9223372036854775808) (hw : wdL h = true) : hedge_Encode n a h = some (encP a h) ∧ ref02_Encode n a h = some (encP a h) := by
  unfold hedge_Encode ref02_Encode encP
  rw [hvalid_eq hd hl hw, rvalid_eq hd hl hw]
  simp only [Option.bind_some]
  by_cases c : vld a h = true
  · obtain ⟨_, c2, c3⟩ := vld_le c
    rw [if_pos c, if_pos c, if_pos c, size_eq _ h hd (by omega), rsize_eq _ h hd (by omega)]
    simp only [Option.bind_some]
    rw [w64_eq (n := 2 * (nsL h : Int)) (by omega) (by omega), w64_eq (by omega) (by omega)]
    by_cases c4 : (300 : Int) < 2 * nsL h + 1
    · rw [if_pos c4, if_pos c4, if_pos c4]; exact ⟨rfl, rfl⟩
    · rw [if_neg c4, if_neg c4, if_neg c4, encode_eq n a h hd (by omega), code_eq n a h (by omega) (by omega)]; exact ⟨rfl, rfl⟩
  · rw [if_neg c, if_neg c, if_neg c]; exact ⟨rfl, rfl⟩
theorem dec_eq {n : Nat} {a : Int} {t : Tree} (hd : tdT t < n) (hn : 1000 ≤ n) : hedge_Decode n a t = some (decP a t) := by
  unfold hedge_Decode decP
  by_cases ha : 1 ≤ a ∧ a ≤ 8
  · obtain ⟨r, b1, b2, b3, b4, b5⟩ := bin_BA ha
    rw [b1, if_pos ha]
    simp only [Option.bind_some, if_true]
    rw [tvalid_eq b5 ha b3 hd]
    simp only [Option.bind_some]
    by_cases c : tvld a t = true
    · rw [if_pos c, if_pos c, unpack_eq n a t (by have := tvld_le c; omega) (by have := tvld_le c; omega) (tvld_le c).2]
      rfl
    · rw [if_neg c, if_neg c]
  · rw [if_neg ha]
    unfold hedge_Binary hedge_labels
    by_cases h1 : 1 ≤ a
    · rw [if_pos h1, decide_eq_false (by omega)]; rfl
    · rw [if_neg h1]; rfl
theorem rdec_eq {n : Nat} {a : Int} {t : Tree} (hd : tdT t < n) (hn : 1000 ≤ n) (hw : twT t = true) : ref02_Decode n a t = some (decP a t) := by
  unfold ref02_Decode decP
  by_cases ha : 1 ≤ a ∧ a ≤ 8
  · obtain ⟨r, b1, b2, b3, b4, b5⟩ := bin_BA ha
    rw [if_pos ha, if_neg (by omega), if_neg (by omega), b2]
    simp only [Option.bind_some]
    rw [rtvalid_eq b5 ha b4 hd hw]
    simp only [Option.bind_some]
    by_cases c : tvld a t = true
    · rw [if_pos c, if_pos c, uncode_eq n a t (by have := tvld_le c; omega) (by have := tvld_le c; omega) (tvld_le c).2]
      rfl
    · rw [if_neg c, if_neg c]
  · rw [if_neg ha]
    by_cases h1 : a < 1
    · rw [if_pos h1]
    · rw [if_neg h1, if_pos (by omega)]
mutual
theorem wdN_of : ∀ x : Node, nsN x < 9223372036854775808 → wdN x = true
  | .mk l k, h => by
    rw [nsN] at h
    have := len_ns k
    rw [wdN, decide_eq_true (by omega), wdL_of k h]; rfl
theorem wdL_of : ∀ l : List Node, nsL l < 9223372036854775808 → wdL l = true
  | [], _ => by rw [wdL]
  | x :: r, h => by
    rw [nsL] at h
    rw [wdL, wdN_of x (by omega), wdL_of r (by omega)]; rfl
end
theorem codes_law (m : Nat) (a : Int) (h : List Node) (t : Tree) (hd : dL h < m + 1010) (ht : tdT t < m + 1010) (hl : h.length < 9223372036854775808) (hw : wdL h = true) (hw' : twT t = true) : law02_HedgeCodes (m + 1010) a h t = some true := by
  unfold law02_HedgeCodes
  rw [few_eq hd hl hw (by omega) (by omega), tfew_eq ht hw' (by omega) (by omega), show m + 1010 = (m + 1000) + 10 from rfl, awake_eq, show m + 1000 + 10 = m + 1010 from rfl]
  simp only [Option.bind_some]
  by_cases c1 : (nsL h : Int) ≤ 2000
  · by_cases c2 : (tsT t : Int) ≤ 2000
    · rw [decide_eq_true c1, decide_eq_true c2]
      simp only [if_true]
      obtain ⟨e1, e2⟩ := enc_eq (a := a) hd (by omega) hl hw
      rw [e1, e2, dec_eq ht (by omega), rdec_eq ht (by omega) hw']
      simp only [Option.bind_some, if_true]
      -- the encoding
      have s1 : ref01_Same (m + 1010) (encP a h).1 (encP a h).1 = some true ∧ ((encP a h).2 = 0 → vld a h = true ∧ (encP a h).1 = cdL a h ∧ 2 * nsL h + 1 ≤ 300) := by
        unfold encP
        by_cases c : vld a h = true
        · obtain ⟨_, k2, k3⟩ := vld_le c
          rw [if_pos c]
          by_cases c4 : (300 : Int) < 2 * nsL h + 1
          · rw [if_pos c4]; exact ⟨tsame_refl _ _ (by rw [tdT, tdL]; omega) (by rw [ts_leaf]; omega), fun h => by simp at h⟩
          · rw [if_neg c4]
            have q := cd_all (a := a) _ h (Nat.lt_succ_self _) k3
            have := td_le (cdL a h)
            exact ⟨tsame_refl _ _ (by simp only []; omega) (by simp only []; omega), fun _ => ⟨c, rfl, by omega⟩⟩
        · rw [if_neg c]; exact ⟨tsame_refl _ _ (by rw [tdT, tdL]; omega) (by rw [ts_leaf]; omega), fun h => by simp at h⟩
      have s2 : ref02_Same (m + 1010) (decP a t).1 (decP a t).1 = some true ∧ ((decP a t).2 = 0 → (1 ≤ a ∧ a ≤ 8) ∧ tvld a t = true ∧ (decP a t).1 = unT a t) := by
        have nil : ref02_Same (m + 1010) [] [] = some true := hsame_refl _ [] (by rw [dL]; omega) (by rw [nsL]; omega)
        unfold decP
        by_cases ha : 1 ≤ a ∧ a ≤ 8
        · rw [if_pos ha]
          by_cases c : tvld a t = true
          · rw [if_pos c]
            obtain ⟨k1, k2⟩ := tvld_le c
            have q := (un_all (a := a) _ t (Nat.lt_succ_self _) k2).1
            have := dL_le (unT a t)
            exact ⟨hsame_refl _ _ (by simp only []; omega) (by simp only []; omega), fun _ => ⟨ha, c, rfl⟩⟩
          · rw [if_neg c]; exact ⟨nil, fun h => by simp at h⟩
        · rw [if_neg ha]; exact ⟨nil, fun h => by simp at h⟩
      rw [s1.1, s2.1]
      simp only [Option.bind_some, if_true]
      -- back from the decoding
      have s3 : (decP a t).2 = 0 → hedge_Encode (m + 1010) a (decP a t).1 = some (t, 0) ∧ ref01_Same (m + 1010) t t = some true := fun z => by
        obtain ⟨ha, c, e⟩ := s2.2 z
        obtain ⟨k1, k2⟩ := tvld_le c
        obtain ⟨q1, q2, q3⟩ := un_all (a := a) _ t (Nat.lt_succ_self _) k2
        have := dL_le (unT a t)
        have := len_ns (unT a t)
        have := td_le t
        refine ⟨?_, tsame_refl _ _ (by omega) (by omega)⟩
        rw [e, (enc_eq (by omega) (by omega) (by omega) (wdL_of _ (by omega))).1]
        unfold encP
        rw [if_pos, if_neg (by omega), q3]
        unfold vld
        rw [decide_eq_true ha, q2, decide_eq_true (by omega)]; rfl
      have fin : (if (decP a t).2 = 0 then (hedge_Encode (m + 1010) a (decP a t).1).bind fun v11 => if v11.2 = 0 then (ref01_Same (m + 1010) v11.1 t).bind fun v12 => if v12 = true then some true else some false else some false else some true) = some true := by
        by_cases z : (decP a t).2 = 0
        · rw [if_pos z, (s3 z).1]
          simp only [Option.bind_some, if_true]
          rw [(s3 z).2]; rfl
        · rw [if_neg z]
      by_cases y : (encP a h).2 = 0
      · rw [if_pos y]
        obtain ⟨k1, k2, k3⟩ := s1.2 y
        obtain ⟨j1, _, j3⟩ := vld_le k1
        obtain ⟨q1, q2, q3⟩ := cd_all (a := a) _ h (Nat.lt_succ_self _) j3
        have := td_le (cdL a h)
        rw [k2, dec_eq (by omega) (by omega)]
        have e : decP a (cdL a h) = (h, 0) := by
          unfold decP
          rw [if_pos j1, if_pos, q3]
          unfold tvld
          rw [decide_eq_true (by omega), q2]; rfl
        rw [e]
        simp only [Option.bind_some, if_true]
        rw [hsame_refl _ h hd (by omega)]
        simp only [Option.bind_some, if_true]
        exact fin
      · rw [if_neg y]
        exact fin
    · rw [decide_eq_true c1, decide_eq_false c2]
      rfl
  · rw [decide_eq_false c1]
    rfl
end Go.AM.S02

namespace Go.AM.S02
open Go Go.Proofs Go.AM
theorem twL_all : ∀ {l : List Tree}, (∀ x, x ∈ l → twT x = true) → twL l = true
  | [], _ => by rw [twL]
  | x :: r, h => by rw [twL, h x (by simp), twL_all (fun y hy => h y (List.mem_cons_of_mem _ hy))]; rfl
theorem d41 : (T.at 41).d = .st [(0, 3), (1, 39)] := rfl
theorem d39 : (T.at 39).d = .sl 41 := rfl
theorem sz39 : (T.at 39).size = 1 := rfl
theorem sz41 : (T.at 41).size = 2 := rfl
theorem wt41 : ∀ (n : Nat) (cs : List PV), wt T n 41 cs → ∃ x : Tree, cs = row_Tree x ∧ twT x = true := by
  intro n
  induction n using Nat.strongRecOn with
  | _ n ih =>
    intro cs h
    obtain ⟨m, rfl, h1, h2⟩ := wt_st d41 h
    rw [sz41] at h1
    match cs, h1 with
    | [c0, c1], _ =>
      have f0 := h2 (0, 3) (by simp)
      have f1 := h2 (1, 39) (by simp)
      simp only [sz3, sz39, List.drop_zero, List.drop_succ_cons, List.take_succ_cons, List.take_zero] at f0 f1
      obtain ⟨i, e0, _⟩ := wt_int d3 f0
      obtain ⟨xs, e1, hl, hx⟩ := wt_slM (row := row_Tree) (P := fun x => twT x = true) d39 f1 (fun m' r hm hr => ih m' (by omega) r hr)
      injection e0 with e0; subst e0
      injection e1 with e1; subst e1
      refine ⟨⟨i, xs⟩, by rw [row_Tree_eq, sz41], ?_⟩
      rw [twT, decide_eq_true hl, twL_all hx]; rfl
theorem law5 (pss : List (List PV)) (h : wtAll T [3, 22, 41] pss) : ∃ σ', call Try.prog T H (.fn 5) (argsOf T [3, 22, 41] pss) [] = some (.ret (.p (.lit (.bool true))), σ') := by
  obtain ⟨p1, r1, rfl, ⟨n1, w1⟩, p2, r2, rfl, ⟨n2, w2⟩, p3, r3, rfl, ⟨n3, w3⟩, rfl⟩ := h
  obtain ⟨a, rfl, _⟩ := wt_int d3 w1
  obtain ⟨h, rfl, hl, hh⟩ := wt22 w2
  obtain ⟨t, rfl, ht⟩ := wt41 n3 p3 w3
  have := spec5 (dL h + tdT t + 1010) a h t true (codes_law (dL h + tdT t) a h t (by omega) (by omega) hl hh ht)
  rw [row_Tree_eq]
  exact ⟨[], this⟩
theorem closed5 : closedB T [3, 22, 24, 39, 41] = true := by decide +kernel
end Go.AM.S02

