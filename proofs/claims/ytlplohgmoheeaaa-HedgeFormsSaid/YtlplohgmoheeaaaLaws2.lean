/- What the functions of this seat compute on the abstract machine, function by function, and the plain laws. -/
import Derived.Test.YtlplohgmoheeaaaLaws
set_option linter.unusedVariables false
set_option linter.unusedSimpArgs false
namespace Go.AM.S02
open Go Go.Proofs Go.AM
set_option linter.unusedVariables false
def ord (a b : Int) : Int := if a < b then -1 else if b < a then 1 else 0
theorem ord_range (a b : Int) : -1 ≤ ord a b ∧ ord a b ≤ 1 := by
  unfold ord; repeat' split
  all_goals omega
theorem ord_anti (a b : Int) : ord b a = - ord a b := by
  unfold ord; repeat' split
  all_goals omega
theorem ord_add (c a b : Int) : ord (c + a) (c + b) = ord a b := by
  unfold ord; repeat' split
  all_goals omega
def lexF (f : Node → Node → Int) : List Node → List Node → Int
  | [], [] => 0
  | [], _ :: _ => -1
  | _ :: _, [] => 1
  | a :: us, b :: bs => if f a b = 0 then lexF f us bs else f a b
def cmpF : Nat → Node → Node → Int
  | 0, _, _ => 0
  | n + 1, x, y => if ord (nsN x) (nsN y) = 0 then (if ord x.Label y.Label = 0 then lexF (cmpF n) x.Kids y.Kids else ord x.Label y.Label) else ord (nsN x) (nsN y)
theorem lexF_range {f : Node → Node → Int} (hf : ∀ a b, -1 ≤ f a b ∧ f a b ≤ 1) : ∀ us bs, -1 ≤ lexF f us bs ∧ lexF f us bs ≤ 1
  | [], [] => by rw [lexF]; omega
  | [], _ :: _ => by rw [lexF]; omega
  | _ :: _, [] => by rw [lexF]; omega
  | a :: us, b :: bs => by
    rw [lexF]
    split
    · exact lexF_range hf us bs
    · exact hf a b
theorem lexF_anti {f : Node → Node → Int} (hf : ∀ a b, f b a = - f a b) : ∀ us bs, lexF f bs us = - lexF f us bs
  | [], [] => by rw [lexF]; rfl
  | [], _ :: _ => by rw [lexF, lexF]; rfl
  | _ :: _, [] => by rw [lexF, lexF]
  | a :: us, b :: bs => by
    rw [lexF, lexF, hf a b]
    by_cases h : f a b = 0
    · rw [if_pos h, if_pos (by omega)]; exact lexF_anti hf us bs
    · rw [if_neg h, if_neg (by omega)]
theorem cmpF_range : ∀ n a b, -1 ≤ cmpF n a b ∧ cmpF n a b ≤ 1
  | 0, a, b => by rw [cmpF]; omega
  | n + 1, a, b => by
    rw [cmpF]
    split
    · split
      · exact lexF_range (cmpF_range n) _ _
      · exact ord_range _ _
    · exact ord_range _ _
theorem cmpF_anti : ∀ n a b, cmpF n b a = - cmpF n a b
  | 0, a, b => by rw [cmpF, cmpF]; rfl
  | n + 1, a, b => by
    rw [cmpF, cmpF, ord_anti (nsN a) (nsN b), ord_anti a.Label b.Label]
    by_cases h : ord (nsN a) (nsN b) = 0
    · rw [if_pos (by omega), if_pos h]
      by_cases h' : ord a.Label b.Label = 0
      · rw [if_pos (by omega), if_pos h']; exact lexF_anti (cmpF_anti n) _ _
      · rw [if_neg (by omega), if_neg h']
    · rw [if_neg (by omega), if_neg h]
mutual
def mzN : Node → hedge_sized
  | .mk l k => ⟨l, 1 + nsL k, mzL k⟩
def mzL : List Node → List hedge_sized
  | [] => []
  | x :: r => mzN x :: mzL r
end
theorem mzL_map : ∀ l : List Node, mzL l = l.map mzN
  | [] => by rw [mzL]; rfl
  | x :: r => by rw [mzL, mzL_map r]; rfl
theorem mzN_eq (x : Node) : mzN x = ⟨x.Label, 1 + nsN x, x.Kids.map mzN⟩ := by cases x; rw [mzN, mzL_map, nsN]
theorem measure_eq : ∀ (n : Nat) (x : Node), dN x < n → nsN x ≤ 100000 → hedge_measure n x = some (mzN x) := by
  intro n
  induction n with
  | zero => intro x hd; omega
  | succ n ih =>
    intro x hd hs
    have hk := len_ns x.Kids
    rw [nsN_eq] at hs
    rw [hedge_measure, rangeL, if_pos (by omega)]
    suffices H : ∀ (l : List Node) (i : Nat) (t : Int) (q : List hedge_sized) (k : Int × List hedge_sized → Option hedge_sized), dL l < n + 1 → 0 ≤ t → t + nsL l ≤ 1000000 → q.length + nsL l ≤ 1000000 → nsL l ≤ 100000 → rangeC (fun i1 x1 (s1 : Int × (List hedge_sized)) n1 => (hedge_measure n x1).bind fun v1 => (app 40 s1.2 [v1]).bind fun v2 => n1 (w64 (s1.1 + v1.size), v2)) l i (t, q) k = k (t + nsL l, q ++ l.map mzN) by
      rw [H x.Kids 0 1 [] _ (by rw [dN_eq] at hd; omega) (by omega) (by omega) (by simp only [List.length_nil]; omega) hs, mzN_eq, nsN_eq]
      rfl
    intro l
    induction l with
    | nil => intro i t q k _ _ _ _ _; rw [rangeC, nsL]; simp
    | cons y r ihr =>
      intro i t q k h1 h2 h3 h4 h5
      obtain ⟨d1, d2⟩ := dL_cons h1
      rw [nsL] at h3 h4 h5
      rw [rangeC, ih y (by rw [dN_eq]; exact d1) (by omega)]
      simp only [Option.bind_some]
      rw [app_ok (by simp only [List.length_cons, List.length_nil]; omega)]
      simp only [Option.bind_some]
      rw [mzN_eq]
      simp only []
      rw [w64_eq (by omega) (by omega), ihr _ _ _ _ d2 (by omega) (by omega) (by rw [List.length_append]; simp only [List.length_cons, List.length_nil]; omega) (by omega)]
      rw [nsL, List.map_cons, mzN_eq y, List.append_assoc]
      congr 2
      omega
theorem compare_int (a b : Int) : cmp_Compare_int a b = some (ord a b) := by
  unfold cmp_Compare_int cmp_isNaN_int ord
  simp only [bne_self_eq_false, Option.bind_some]
  rw [if_neg (by decide), if_neg (by decide)]
  split
  · rfl
  · split <;> rfl
theorem or_int (a b : Int) : cmp_Or_int [a, b] = some (if a = 0 then b else a) := by
  unfold cmp_Or_int rangeL
  rw [if_pos (by simp only [List.length_cons, List.length_nil]; omega)]
  simp only [rangeC]
  by_cases h : a = 0
  · rw [if_pos h, if_pos h]
    by_cases h' : b = 0
    · rw [if_pos h', h']
    · rw [if_neg h']
  · rw [if_neg h, if_neg h]
theorem hcompare_eq : ∀ (n : Nat) (x y : Node), dN x < n → nsN x ≤ 100000 → nsN y ≤ 100000 → hedge_compare n (mzN x) (mzN y) = some (cmpF n x y) := by
  intro n
  induction n with
  | zero => intro x y hd; omega
  | succ n ih =>
    intro x y hd hx hy
    have hk := len_ns x.Kids
    have hk' := len_ns y.Kids
    rw [hedge_compare, mzN_eq x, mzN_eq y]
    simp only []
    rw [compare_int, compare_int]
    simp only [Option.bind_some]
    rw [or_int, cmpF, ord_add]
    simp only [Option.bind_some]
    by_cases c1 : ord (nsN x) (nsN y) = 0
    · rw [if_pos c1, if_pos c1]
      by_cases c2 : ord x.Label y.Label = 0
      · rw [if_pos c2, if_pos c2]
        rw [nsN_eq] at hx hy
        simp only [jn]
        rw [rangeL, if_pos (by rw [List.length_map]; omega)]
        suffices H : ∀ (us bs pa pb : List Node), pa.length = pb.length → x.Kids = pa ++ us → y.Kids = pb ++ bs → dL us < n + 1 → nsL us ≤ 100000 → nsL bs ≤ 100000 → rangeC (fun i1 (x1 : hedge_sized) (s1 : Unit) n1 => if ((y.Kids.map mzN).length : Int) ≤ (i1 : Int) then some 1 else ((y.Kids.map mzN)[i1]?).bind fun v4 => (hedge_compare n x1 v4).bind fun v5 => if v5 = 0 then n1 () else some v5) (us.map mzN) pa.length () (fun _ => if ((x.Kids.map mzN).length : Int) < ((y.Kids.map mzN).length : Int) then some (-1) else some 0) = some (lexF (cmpF n) us bs) from
          H x.Kids y.Kids [] [] rfl rfl rfl (by rw [dN_eq] at hd; exact hd) hx hy
        intro us
        induction us with
        | nil =>
          intro bs pa pb e1 e2 e3 _ _ _
          rw [List.map_nil, rangeC, List.length_map, List.length_map, e2, e3]
          cases bs with
          | nil => rw [if_neg (by simp; omega), lexF]
          | cons b bs => rw [if_pos (by simp; omega), lexF]
        | cons a us iha =>
          intro bs pa pb e1 e2 e3 h1 h2 h3
          obtain ⟨d1, d2⟩ := dL_cons h1
          rw [nsL] at h2
          rw [List.map_cons, rangeC]
          cases bs with
          | nil => rw [if_pos (by rw [List.length_map, e3]; simp; omega), lexF]
          | cons b bs =>
            rw [nsL] at h3
            have hb : (y.Kids.map mzN)[pa.length]? = some (mzN b) := by rw [List.getElem?_map, e3, e1, List.getElem?_append_right (Nat.le_refl _), Nat.sub_self]; rfl
            rw [if_neg (by rw [List.length_map, e3]; simp; omega), hb]
            simp only [Option.bind_some]
            rw [ih a b (by rw [dN_eq]; exact d1) (by omega) (by omega), lexF]
            simp only [Option.bind_some]
            by_cases c : cmpF n a b = 0
            · rw [if_pos c, if_pos c]
              have := iha bs (pa ++ [a]) (pb ++ [b]) (by simp [e1]) (by simp [e2]) (by simp [e3]) d2 (by omega) (by omega)
              rw [List.length_append] at this
              exact this
            · rw [if_neg c, if_neg c]
      · rw [if_neg c2, if_neg c2]
    · rw [if_neg c1, if_neg c1, if_neg c1]
theorem order_eq (a b : Int) : ref02_order a b = some (ord a b) := by
  unfold ref02_order ord
  split
  · rfl
  · split <;> rfl
theorem rcompare_eq : ∀ (n : Nat) (x y : Node), dN x + 1 < n → dN y + 1 < n → nsN x ≤ 100000 → nsN y ≤ 100000 → ref02_Compare n x y = some (cmpF n x y) := by
  intro n
  induction n with
  | zero => intro x y hd; omega
  | succ n ih =>
    intro x y hd hd' hx hy
    have hk := len_ns x.Kids
    have hk' := len_ns y.Kids
    rw [dN_eq] at hd hd'
    rw [ref02_Compare, rsize_eq n x.Kids (by omega) (by rw [nsN_eq] at hx; omega), rsize_eq n y.Kids (by omega) (by rw [nsN_eq] at hy; omega)]
    simp only [Option.bind_some]
    rw [order_eq, order_eq, order_eq, cmpF, nsN_eq, nsN_eq]
    simp only [Option.bind_some]
    by_cases c1 : ord (nsL x.Kids) (nsL y.Kids) = 0
    · rw [if_pos c1, if_pos c1]
      by_cases c2 : ord x.Label y.Label = 0
      · rw [if_pos c2, if_pos c2]
        rw [nsN_eq] at hx hy
        have e0 : minI (x.Kids.length : Int) (y.Kids.length : Int) = ((min x.Kids.length y.Kids.length : Nat) : Int) := by unfold minI; split <;> omega
        rw [e0, rangeI, if_pos (by omega), Int.toNat_natCast]
        suffices H : ∀ (us bs pa pb : List Node), pa.length = pb.length → x.Kids = pa ++ us → y.Kids = pb ++ bs → dL us + 1 < n + 1 → dL bs + 1 < n + 1 → nsL us ≤ 100000 → nsL bs ≤ 100000 → rangeC (fun i1 (_ : Unit) (s1 : Unit) n1 => (x.Kids[i1]?).bind fun v6 => (y.Kids[i1]?).bind fun v7 => (ref02_Compare n v6 v7).bind fun v8 => if v8 = 0 then n1 () else some v8) (List.replicate (min us.length bs.length) ()) pa.length () (fun _ => some (ord (x.Kids.length : Int) (y.Kids.length : Int))) = some (lexF (cmpF n) us bs) from
          H x.Kids y.Kids [] [] rfl rfl rfl (by omega) (by omega) hx hy
        intro us
        induction us with
        | nil =>
          intro bs pa pb e1 e2 e3 _ _ _ _
          rw [List.length_nil, Nat.zero_min, List.replicate_zero, rangeC, e2, e3]
          unfold ord
          cases bs with
          | nil => rw [if_neg (by simp; omega), if_neg (by simp; omega), lexF]
          | cons b bs => rw [if_pos (by simp; omega), lexF]
        | cons a us iha =>
          intro bs pa pb e1 e2 e3 h1 h1' h2 h3
          have h4 := h1
          rw [dL, dN_eq] at h4
          rw [nsL] at h2
          cases bs with
          | nil =>
            rw [List.length_nil, Nat.min_zero, List.replicate_zero, rangeC, e2, e3]
            unfold ord
            rw [if_neg (by simp; omega), if_pos (by simp; omega), lexF]
          | cons b bs =>
            rw [nsL] at h3
            have h4' := h1'
            rw [dL, dN_eq] at h4'
            have ha : x.Kids[pa.length]? = some a := by rw [e2, List.getElem?_append_right (Nat.le_refl _), Nat.sub_self]; rfl
            have hb : y.Kids[pa.length]? = some b := by rw [e3, e1, List.getElem?_append_right (Nat.le_refl _), Nat.sub_self]; rfl
            rw [List.length_cons, List.length_cons, Nat.succ_min_succ, List.replicate_succ, rangeC, ha, hb]
            simp only [Option.bind_some]
            rw [ih a b (by rw [dN_eq]; omega) (by rw [dN_eq]; omega) (by omega) (by omega), lexF]
            simp only [Option.bind_some]
            by_cases c : cmpF n a b = 0
            · rw [if_pos c, if_pos c]
              have := iha bs (pa ++ [a]) (pb ++ [b]) (by simp [e1]) (by simp [e2]) (by simp [e3]) (by omega) (by omega) (by omega) (by omega)
              rw [List.length_append] at this
              exact this
            · rw [if_neg c, if_neg c]
      · rw [if_neg c2, if_neg c2]
    · rw [if_neg c1, if_neg c1]
theorem binary_eq (a : Int) : ∃ r : List Int, ∃ e : Int, hedge_Binary a = some (⟨r⟩, e) ∧ ref02_Binary a = some (⟨r⟩, e) ∧ ref01_List r r = some true := by
  by_cases h : 1 ≤ a ∧ a ≤ 8
  · have : a = 1 ∨ a = 2 ∨ a = 3 ∨ a = 4 ∨ a = 5 ∨ a = 6 ∨ a = 7 ∨ a = 8 := by omega
    rcases this with rfl | rfl | rfl | rfl | rfl | rfl | rfl | rfl
    · exact ⟨[2, 0], 0, rfl, rfl, rfl⟩
    · exact ⟨[2, 2, 0], 0, rfl, rfl, rfl⟩
    · exact ⟨[2, 2, 2, 0], 0, rfl, rfl, rfl⟩
    · exact ⟨[2, 2, 2, 2, 0], 0, rfl, rfl, rfl⟩
    · exact ⟨[2, 2, 2, 2, 2, 0], 0, rfl, rfl, rfl⟩
    · exact ⟨[2, 2, 2, 2, 2, 2, 0], 0, rfl, rfl, rfl⟩
    · exact ⟨[2, 2, 2, 2, 2, 2, 2, 0], 0, rfl, rfl, rfl⟩
    · exact ⟨[2, 2, 2, 2, 2, 2, 2, 2, 0], 0, rfl, rfl, rfl⟩
  · refine ⟨[], 6, ?_, ?_, rfl⟩
    · unfold hedge_Binary hedge_labels
      by_cases h1 : 1 ≤ a
      · rw [if_pos h1, decide_eq_false (by omega)]; rfl
      · rw [if_neg h1]; rfl
    · unfold ref02_Binary
      by_cases h1 : a < 1
      · rw [if_pos h1]
      · rw [if_neg h1, if_pos (by omega)]
theorem forms_law (m : Nat) (a : Int) (h : List Node) (x y : Node) (hdh : dL h + 2 < m + 10) (hdx : dN x + 2 < m + 10) (hdy : dN y + 2 < m + 10) (hlh : h.length < 9223372036854775808) (hwh : wdL h = true) (hw : wdL [x, y] = true) : law02_HedgeForms (m + 10) a h x y = some true := by
  have hwx : wdL [x] = true := by
    have := wdL_cons hw
    rw [wdL] at hw ⊢; simp only [Bool.and_eq_true] at hw ⊢; exact ⟨hw.1, by rw [wdL]⟩
  unfold law02_HedgeForms hedge_Valid ref02_Valid
  rw [few_eq (by omega) hlh hwh (by omega) (by omega), awake_eq]
  simp only [Option.bind_some]
  by_cases c1 : (nsL h : Int) ≤ 2000
  · rw [decide_eq_true c1]
    simp only [if_true]
    rw [few_eq (by rw [dL, dL_one]; omega) (by simp only [List.length_cons, List.length_nil]; omega) hw (by omega) (by omega)]
    simp only [Option.bind_some]
    by_cases c2 : (nsL [x, y] : Int) ≤ 2000
    · rw [decide_eq_true c2]
      simp only [if_true]
      rw [nsL, nsL, nsL] at c2
      obtain ⟨r, e, b1, b2, b3⟩ := binary_eq a
      rw [b1, b2, hvalid_eq (h := [x]) (by rw [dL_one]; omega) (by simp only [List.length_cons, List.length_nil]; omega) hwx, rvalid_eq (h := [x]) (by rw [dL_one]; omega) (by simp only [List.length_cons, List.length_nil]; omega) hwx,
        hvalid_eq (by omega) hlh hwh, rvalid_eq (by omega) hlh hwh, size_eq _ h (by omega) (by omega), rsize_eq _ h (by omega) (by omega)]
      have k1 : ∀ u v : Node, dN u + 2 < m + 10 → dN v + 2 < m + 10 → nsN u ≤ 2000 → nsN v ≤ 2000 → hedge_Compare (m + 10) u v = some (cmpF (m + 10) u v) := fun u v d1 d2 s1 s2 => by
        unfold hedge_Compare
        rw [measure_eq _ u (by omega) (by omega), measure_eq _ v (by omega) (by omega)]
        simp only [Option.bind_some]
        rw [hcompare_eq _ u v (by omega) (by omega) (by omega)]
        rfl
      rw [k1 x y hdx hdy (by omega) (by omega), k1 y x hdy hdx (by omega) (by omega), rcompare_eq _ x y (by omega) (by omega) (by omega) (by omega)]
      simp only [Option.bind_some, if_true, b3]
      have cr := cmpF_range (m + 10) x y
      rw [cmpF_anti (m + 10) x y, show IntKind.i64.wrap (0 - - cmpF (m + 10) x y) = cmpF (m + 10) x y by rw [wrapN] <;> omega]
      simp only [if_true]
    · rw [decide_eq_false c2]
      rfl
  · rw [decide_eq_false c1]
    rfl
end Go.AM.S02

namespace Go.AM.S02
open Go Go.Proofs Go.AM
theorem wt22 {n : Nat} {cs : List PV} (h : wt T n 22 cs) : ∃ xs : List Node, cs = [.sl none 2 (xs.map row_Node)] ∧ xs.length < 9223372036854775808 ∧ wdL xs = true := by
  obtain ⟨xs, e, hl, hx⟩ := wt_slM (row := row_Node) (P := fun x => wdN x = true) d22 h (fun m r _ hr => wt24 m r hr)
  exact ⟨xs, by rw [e, sz24], hl, wdL_all hx⟩
theorem law6 (pss : List (List PV)) (h : wtAll T [3, 22, 24, 24] pss) : ∃ σ', call Try.prog T H (.fn 6) (argsOf T [3, 22, 24, 24] pss) [] = some (.ret (.p (.lit (.bool true))), σ') := by
  obtain ⟨p1, r1, rfl, ⟨n1, w1⟩, p2, r2, rfl, ⟨n2, w2⟩, p3, r3, rfl, ⟨n3, w3⟩, p4, r4, rfl, ⟨n4, w4⟩, rfl⟩ := h
  obtain ⟨a, rfl, _⟩ := wt_int d3 w1
  obtain ⟨h, rfl, hl, hh⟩ := wt22 w2
  obtain ⟨x, rfl, hx⟩ := wt24 n3 p3 w3
  obtain ⟨y, rfl, hy⟩ := wt24 n4 p4 w4
  have := spec6 (dL h + dN x + dN y + 10) a h x y true (forms_law (dL h + dN x + dN y) a h x y (by omega) (by omega) (by omega) hl hh (by rw [wdL, wdL, hx, hy, wdL]; rfl))
  rw [row_Node_eq, row_Node_eq]
  exact ⟨[], this⟩
end Go.AM.S02

