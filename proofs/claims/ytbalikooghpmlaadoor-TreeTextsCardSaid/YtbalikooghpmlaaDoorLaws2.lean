/- What the functions of this seat compute on the abstract machine, function by function, and the plain laws. -/
import Derived.Test.YtbalikooghpmlaaDoorLaws
set_option linter.unusedVariables false
set_option linter.unusedSimpArgs false
namespace Go.AM.S01
open Go Go.Proofs Go.AM
set_option linter.unusedVariables false
set_option maxRecDepth 100000
set_option maxHeartbeats 4000000
def PP (names : List Str) (r : List Int) (t : Str) : Tree × Int := match PT names r (t.length + 1) t with
 | some (tr, q) => if skp q = [] then (if 300 < tsT tr then (⟨0, []⟩, 3) else (tr, 0)) else (⟨0, []⟩, 4)
 | none => (⟨0, []⟩, 4)
def pP (names : List Str) (r : List Int) (t : Str) : Tree × Int := if vA r = true then (if nmB names (r.length : Int) = true then (if 16384 < (t.length : Int) then (⟨0, []⟩, 3) else PP names r t) else (⟨0, []⟩, 4)) else (⟨0, []⟩, 1)
theorem parse_eq {n : Nat} {r : List Int} {names : List Str} {t : Str} (hN : names.length ≤ 1000) (hn : 16384 + 100 ≤ n) : tree_Parse n ⟨r⟩ names t = some (pP names r t) := by
 unfold tree_Parse pP
 rw [hvA, Option.bind_some]
 by_cases c1 : vA r = true
 ·rw [if_pos c1, if_pos c1, names_eq _ _ hN, Option.bind_some]
  dsimp only
  by_cases c2 : nmB names (r.length : Int) = true
  ·rw [if_pos c2, if_pos c2]
   by_cases c3 : 16384 < (t.length : Int)
   ·rw [if_pos c3, if_pos c3]
   ·rw [if_neg c3, if_neg c3]
    unfold tree_read
    have h := rd_eq (t := t) (by omega) c1 c2 hN (t.length + 1) n t (Sf.refl t) (by omega) (by omega)
    rw [pos_self] at h
    unfold PP
    cases hp : PT names r (t.length + 1) t with
    | none =>
     rw [hp] at h
     obtain ⟨x, hx⟩ := h
     rw [hx]; rfl
    | some z =>
     obtain ⟨tr, q⟩ := z
     rw [hp] at h
     simp only [Rp] at h
     obtain ⟨b1, b2⟩ := PT_out _ _ _ _ _ _ hp
     have htd := td_le tr
     rw [h, Option.bind_some]
     simp only [pn]
     rw [end_eq (by omega) b1 (by omega), Option.bind_some]
     dsimp only
     by_cases c5 : skp q = []
     ·rw [decide_eq_true c5, if_pos rfl, if_pos c5]
      simp only [Option.bind_some, if_true]
      rw [tree_Size_eq n tr (by omega) (by omega), Option.bind_some]
      by_cases c4 : 300 < tsT tr
      ·rw [if_pos (by omega), if_pos c4]
      ·rw [if_neg (by omega), if_neg c4]
     ·rw [decide_eq_false c5, if_neg Bool.false_ne_true, if_neg c5]
      rfl
  ·rw [if_neg c2, if_neg c2]
 ·rw [if_neg c1, if_neg c1]
theorem rparse_eq {n : Nat} {r : List Int} {names : List Str} {t : Str} (hN : names.length ≤ 1000) (hn : 100000 ≤ n) : ref01_Parse n ⟨r⟩ names t = some (pP names r t) := by
 unfold ref01_Parse pP
 rw [rvA, Option.bind_some]
 by_cases c1 : vA r = true
 ·rw [if_pos c1, if_pos c1, rnames_eq (by omega) _ _ hN, Option.bind_some]
  dsimp only
  by_cases c2 : nmB names (r.length : Int) = true
  ·rw [if_pos c2, if_pos c2]
   by_cases c3 : 16384 < (t.length : Int)
   ·rw [if_pos c3, if_pos c3]
   ·rw [if_neg c3, if_neg c3]
    have h := rrd_eq (names := names) c1 c2 hN (t.length + 1) n t (by omega) (by omega) (by omega)
    unfold PP
    cases hp : PT names r (t.length + 1) t with
    | none =>
     rw [hp] at h
     obtain ⟨l, a, nm, z, hz, hx⟩ := h
     rw [hx, Option.bind_some, blanks_eq (by omega) (by omega), Option.bind_some, if_pos rfl]
    | some z =>
     obtain ⟨tr, q⟩ := z
     rw [hp] at h
     simp only [Rr] at h
     obtain ⟨b1, b2⟩ := PT_out _ _ _ _ _ _ hp
     have htd := td_le tr
     rw [h, Option.bind_some, blanks_eq (by omega) (by omega), Option.bind_some, if_neg Bool.false_ne_true]
     dsimp only
     by_cases c5 : skp q = []
     ·rw [if_pos c5, if_pos c5, tfew_eq (by omega) (twT_of _ (by omega)) (by omega) (by omega), Option.bind_some]
      by_cases c4 : 300 < tsT tr
      ·rw [if_neg (by rw [decide_eq_false (by omega)]; decide), if_pos c4]
      ·rw [if_pos (decide_eq_true (by omega)), if_neg c4]
     ·rw [if_neg c5, if_neg c5]
  ·rw [if_neg c2, if_neg c2]
 ·rw [if_neg c1, if_neg c1]
def nmA (names : List Str) (i : Int) : Str := (names[i.toNat]?).getD []
mutual
def wrT (names : List Str) : Tree → Str
 | .mk s k => nmA names s ++ (if k.length = 0 then [] else 40 :: (wrK names false k ++ [41]))
def wrK (names : List Str) : Bool → List Tree → Str
 | _, [] => []
 | b, x :: r => (if b = true then [44, 32] else []) ++ wrT names x ++ wrK names true r
end
theorem wrT_eq (names : List Str) (x : Tree) : wrT names x = nmA names x.Sym ++ (if x.Kids.length = 0 then [] else 40 :: (wrK names false x.Kids ++ [41])) := by cases x; rw [wrT]
theorem nm_at {names : List Str} {a : Int} (hv : nmB names a = true) {l : Int} (h : 0 ≤ l ∧ l < a) : idx names l = some (nmA names l) ∧ nameB (nmA names l) = true ∧ ixS names (nmA names l) 0 = l := by
 obtain ⟨h1, h2⟩ := nm_out hv
 have hl : l.toNat < names.length := by omega
 have e : names[l.toNat]? = some (names[l.toNat]) := List.getElem?_eq_getElem hl
 obtain ⟨a1, a2⟩ := h2 _ _ e
 have e2 : nmA names l = names[l.toNat] := by unfold nmA; rw [e]; rfl
 unfold idx
 rw [if_pos h.1, e2]
 exact ⟨e, a1, by omega⟩
theorem sh_out {r : List Int} {t : Tree} (h : shT r t = true) : (0 ≤ t.Sym ∧ t.Sym < (r.length : Int)) ∧ (t.Kids.length : Int) = rk r t.Sym ∧ shL r t.Kids = true := by
 rw [shT_eq, Bool.and_eq_true, decide_eq_true_eq] at h
 exact ⟨⟨h.1.1, h.1.2.1⟩, h.1.2.2, h.2⟩
theorem sh_cons {r : List Int} {x : Tree} {q : List Tree} (h : shL r (x :: q) = true) : shT r x = true ∧ shL r q = true := by
 rw [shL, Bool.and_eq_true] at h; exact h
theorem wr_len {names : List Str} {r : List Int} (hv : nmB names (r.length : Int) = true) : ∀ k : Nat, (∀ t : Tree, tsT t < k → shT r t = true → (wrT names t).length + 2 ≤ 16 * tsT t) ∧ ∀ (l : List Tree) (b : Bool), tsL l < k → shL r l = true → (wrK names b l).length ≤ 16 * tsL l := by
 intro k
 induction k with
 | zero => exact ⟨fun t h => by omega, fun l b h => by omega⟩
 | succ k ih =>
  have hT : ∀ t : Tree, tsT t < k + 1 → shT r t = true → (wrT names t).length + 2 ≤ 16 * tsT t := by
   intro t ht hs
   obtain ⟨h1, _, h3⟩ := sh_out hs
   rw [tsT_eq] at ht ⊢
   have i1 := ih.2 t.Kids false (by omega) h3
   have i2 := name_len (nm_at hv h1).2.1
   rw [wrT_eq, List.length_append]
   split
   ·simp only [List.length_nil]; omega
   ·simp only [List.length_cons, List.length_append, List.length_nil]; omega
  refine ⟨hT, fun l => ?_⟩
  induction l with
  | nil => intro b _ _; rw [wrK]; simp
  | cons x q ihq =>
   intro b hk hs
   obtain ⟨s1, s2⟩ := sh_cons hs
   rw [tsL] at hk ⊢
   have i1 := hT x (by omega) s1
   have i2 := ihq true (by omega) s2
   rw [wrK]
   simp only [List.length_append]
   have : (if b = true then [44, 32] else [] : Str).length ≤ 2 := by split <;> simp
   omega
theorem write_eq {names : List Str} {r : List Int} (hv : nmB names (r.length : Int) = true) : ∀ (n : Nat) (t : Tree) (o : List Int), tdT t < n → tsT t ≤ 10000 → shT r t = true → o.length + 20 * tsT t ≤ 1000000 →
 tree_write n o names t = some (o ++ ofStr (wrT names t)) := by
 intro n
 induction n with
 | zero => intro t o hd; omega
 | succ n ih =>
  intro t o hd hs hl ho
  obtain ⟨h1, _, h3⟩ := sh_out hl
  obtain ⟨n1, n2, n3⟩ := nm_at hv h1
  have n4 := name_len n2
  have hkl := tlen t.Kids
  rw [tsT_eq] at hs ho
  rw [tdT_eq] at hd
  have wk := (wr_len (r := r) hv (tsL t.Kids + 1)).2 t.Kids false (by omega) h3
  rw [tree_write, n1, Option.bind_some, app_ok (by rw [ofStr_len]; omega), Option.bind_some, rangeL, if_pos (by omega)]
  have H : ∀ (K : List Int → Option (List Int)) (l : List Tree) (i : Nat) (s : List Int), tdL l < n + 1 → tsL l ≤ 10000 → shL r l = true → s.length + 20 * tsL l ≤ 999996 → rangeC (fun i1 x1 (s1 : (List Int)) n1 =>
   if (i1 : Int) = 0 then
    (app 1 s1 [40]).bind fun v4 =>
    (tree_write n v4 names x1).bind fun v5 =>
    n1 v5
   else
    (app 1 s1 (ofStr ([44, 32] : Str))).bind fun v6 =>
    (tree_write n v6 names x1).bind fun v7 =>
    n1 v7) l i s K = K (s ++ ofStr (if 0 < i then wrK names true l else if l.length = 0 then [] else 40 :: wrK names false l)) := by
   intro K l
   induction l with
   | nil => intro i s _ _ _ _; rw [rangeC]; congr 1; split <;> simp [ofStr, wrK]
   | cons x q ihr =>
    intro i s hd hs hl ho
    obtain ⟨d1, d2⟩ := tdL_cons hd
    obtain ⟨l1, l2⟩ := sh_cons hl
    rw [tsL] at hs ho
    have w1 := (wr_len (r := r) hv (tsT x + 1)).1 x (by omega) l1
    rw [rangeC]
    by_cases hi : 0 < i
    ·rw [if_neg (by omega), app_ok (by rw [ofStr_len]; simp only [List.length_cons, List.length_nil]; omega), Option.bind_some, ih x _ d1 (by omega) l1 (by rw [List.length_append, ofStr_len]; simp only [List.length_cons, List.length_nil]; omega), Option.bind_some]
     dsimp only
     rw [ihr _ _ d2 (by omega) l2 (by simp only [List.length_append, List.length_cons, List.length_nil, ofStr_len]; omega)]
     congr 1
     rw [if_pos hi, if_pos (by omega), wrK]
     simp [ofStr]
    ·rw [if_pos (by omega), app_ok (by simp only [List.length_cons, List.length_nil]; omega), Option.bind_some, ih x _ d1 (by omega) l1 (by simp only [List.length_append, List.length_cons, List.length_nil]; omega), Option.bind_some]
     dsimp only
     rw [ihr _ _ d2 (by omega) l2 (by simp only [List.length_append, List.length_cons, List.length_nil, ofStr_len]; omega)]
     congr 1
     rw [if_neg hi, if_neg (show ¬ (x :: q).length = 0 by simp), if_pos (show 0 < i + 1 by omega), wrK]
     simp [ofStr]
  rw [H _ t.Kids 0 _ hd (by omega) h3 (by rw [List.length_append, ofStr_len]; omega)]
  rw [if_neg (Nat.lt_irrefl 0), wrT_eq]
  by_cases ck : t.Kids.length = 0
  ·rw [if_neg (show ¬ 0 < (t.Kids.length : Int) by omega), if_pos ck, if_pos ck]; simp [ofStr]
  ·rw [if_pos (show 0 < (t.Kids.length : Int) by omega), if_neg ck, if_neg ck, app_ok (by simp only [List.length_append, List.length_cons, List.length_nil, ofStr_len]; omega), Option.bind_some]
   simp [ofStr]
theorem rwrite_eq {names : List Str} {r : List Int} (hv : nmB names (r.length : Int) = true) : ∀ (n : Nat) (t : Tree), tdT t < n → tsT t ≤ 10000 → shT r t = true →
 ref01_Write n names t = some (wrT names t) := by
 intro n
 induction n with
 | zero => intro t hd; omega
 | succ n ih =>
  intro t hd hs hl
  obtain ⟨h1, _, h3⟩ := sh_out hl
  obtain ⟨n1, n2, n3⟩ := nm_at hv h1
  have n4 := name_len n2
  have hkl := tlen t.Kids
  rw [tsT_eq] at hs
  rw [tdT_eq] at hd
  have wk := (wr_len (r := r) hv (tsL t.Kids + 1)).2 t.Kids false (by omega) h3
  rw [ref01_Write, n1, Option.bind_some, rangeL, if_pos (by omega)]
  have H : ∀ (K : Str → Option Str) (l : List Tree) (i : Nat) (s : Str), tdL l < n + 1 → tsL l ≤ 10000 → shL r l = true → s.length + 16 * tsL l ≤ 1000000 → rangeC (fun i1 x1 (s1 : Str) n1 =>
   if (i1 : Int) = 0 then
    (cat s1 ([40] : Str)).bind fun v3 =>
    (ref01_Write n names x1).bind fun v4 =>
    (cat v3 v4).bind fun v5 =>
    n1 v5
   else
    (cat s1 ([44, 32] : Str)).bind fun v6 =>
    (ref01_Write n names x1).bind fun v7 =>
    (cat v6 v7).bind fun v8 =>
    n1 v8) l i s K = K (s ++ (if 0 < i then wrK names true l else if l.length = 0 then [] else 40 :: wrK names false l)) := by
   intro K l
   induction l with
   | nil => intro i s _ _ _ _; rw [rangeC]; congr 1; split <;> simp [wrK]
   | cons x q ihr =>
    intro i s hd hs hl ho
    obtain ⟨d1, d2⟩ := tdL_cons hd
    obtain ⟨l1, l2⟩ := sh_cons hl
    rw [tsL] at hs ho
    have w1 := (wr_len (r := r) hv (tsT x + 1)).1 x (by omega) l1
    rw [rangeC]
    by_cases hi : 0 < i
    ·rw [if_neg (by omega), cat_ok (by simp only [List.length_cons, List.length_nil]; omega), Option.bind_some, ih x d1 (by omega) l1, Option.bind_some, cat_ok (by simp only [List.length_append, List.length_cons, List.length_nil]; omega), Option.bind_some]
     dsimp only
     rw [ihr _ _ d2 (by omega) l2 (by simp only [List.length_append, List.length_cons, List.length_nil]; omega)]
     congr 1
     rw [if_pos hi, if_pos (by omega), wrK]
     simp
    ·rw [if_pos (by omega), cat_ok (by simp only [List.length_cons, List.length_nil]; omega), Option.bind_some, ih x d1 (by omega) l1, Option.bind_some, cat_ok (by simp only [List.length_append, List.length_cons, List.length_nil]; omega), Option.bind_some]
     dsimp only
     rw [ihr _ _ d2 (by omega) l2 (by simp only [List.length_append, List.length_cons, List.length_nil]; omega)]
     congr 1
     rw [if_neg hi, if_neg (show ¬ (x :: q).length = 0 by simp), if_pos (show 0 < i + 1 by omega), wrK]
     simp
  rw [H _ t.Kids 0 _ hd (by omega) h3 (by omega)]
  rw [if_neg (Nat.lt_irrefl 0), wrT_eq]
  by_cases ck : t.Kids.length = 0
  ·rw [if_neg (show ¬ 0 < (t.Kids.length : Int) by omega), if_pos ck, if_pos ck]
  ·rw [if_pos (show 0 < (t.Kids.length : Int) by omega), if_neg ck, if_neg ck, cat_ok (by simp only [List.length_append, List.length_cons, List.length_nil]; omega), Option.bind_some]
   simp
def prP (names : List Str) (r : List Int) (t : Tree) : Str × Int := if tvld r t = true then (if nmB names (r.length : Int) = true then (wrT names t, 0) else ([], 4)) else ([], 1)
theorem print_eq {n : Nat} {r : List Int} {names : List Str} {t : Tree} (hd : tdT t < n) (hn : 20 ≤ n) (hw : twT t = true) (hN : names.length ≤ 1000) : tree_Print n ⟨r⟩ names t = some (prP names r t) ∧ ref01_Print n ⟨r⟩ names t = some (prP names r t) := by
 unfold tree_Print ref01_Print prP
 rw [tvalid_eq r hd hw, rtvalid_eq r hd hw]
 simp only [Option.bind_some]
 by_cases c : tvld r t = true
 ·obtain ⟨_, c2, c3⟩ := tvld_le c
  rw [if_pos c, if_pos c, if_pos c, names_eq _ _ hN, rnames_eq hn _ _ hN]
  simp only [Option.bind_some]
  by_cases d : nmB names (r.length : Int) = true
  ·rw [if_pos d, if_pos d, if_pos d, write_eq d n t [] hd (by omega) c3 (by simp only [List.length_nil]; omega), rwrite_eq d n t hd (by omega) c3]
   simp only [Option.bind_some, List.nil_append, strB_ofStr, and_self]
  ·rw [if_neg d, if_neg d, if_neg d]; exact ⟨rfl, rfl⟩
 ·rw [if_neg c, if_neg c, if_neg c]; exact ⟨rfl, rfl⟩
end Go.AM.S01

namespace Go.AM.S01
open Go Go.Proofs Go.AM
set_option maxRecDepth 100000
set_option linter.unusedVariables false
set_option maxHeartbeats 4000000
def law01_TreeTexts (n : Nat) (a0 : Alphabet) (a1 : List Str) (a2 : Tree) (a3 : Str) : Option Bool :=
 (law01_few n a0 [a2]).bind fun v1 =>
 if v1 = true then
  if 40 < (a1.length : Int) then
   (law01_awake n).bind fun v2 =>
   some v2
  else
   if 20000 < (a3.length : Int) then
    (law01_awake n).bind fun v3 =>
    some v3
   else
    (tree_Print n a0 a1 a2).bind fun v4 =>
    (ref01_Print n a0 a1 a2).bind fun v5 =>
    (tree_Parse n a0 a1 a3).bind fun v6 =>
    (ref01_Parse n a0 a1 a3).bind fun v7 =>
    if v4.1 = v5.1 then
     if v4.2 = v5.2 then
      (ref01_Same n v6.1 v7.1).bind fun v8 =>
      if v8 = true then
       if v6.2 = v7.2 then
        if v4.2 = 0 then
         if (v4.1.length : Int) ≤ 16384 then
          (tree_Parse n a0 a1 v4.1).bind fun v9 =>
          if v9.2 = 0 then
           (ref01_Same n v9.1 a2).bind fun v10 =>
           if v10 = true then
            (law01_awake n).bind fun v11 =>
            some v11
           else
            some false
          else
           some false
         else
          (law01_awake n).bind fun v12 =>
          some v12
        else
         (law01_awake n).bind fun v13 =>
         some v13
       else
        some false
      else
       some false
     else
      some false
    else
     some false
 else
  (law01_awake n).bind fun v14 =>
  some v14
theorem spec8 (n : Nat) (a0 : Alphabet) (a1 : List Str) (a2 : Tree) (a3 : Str) (r : Bool) (h : law01_TreeTexts n a0 a1 a2 a3 = some r) :
 call Tryd.prog T H (.fn 8) [.p (.agg [.sl none 1 (List.map rowI a0.Ranks)]), .p (.sl none 1 (List.map rowS a1)), .p (.agg [iv a2.Sym, .sl none 2 (List.map row_Tree a2.Kids)]), .p (.lit (.string (bs a3)))] [] = some (.ret (.p (bv r)), []) := by
 refine Sat.fn fun Q hQ => ?_
 unfold law01_TreeTexts at h
 rw [call8]
 conv => arg 1; arg 7; unfold S01.c8 Tryd.f8; simp only [Option.getD_some]
 obtain ⟨v1, e_v1, h⟩ := ob h
 have e_v1c : call Tryd.prog T H (.fn 9) [.p (.agg [.sl none 1 (List.map rowI a0.Ranks)]), .p (.sl none 2 [[iv a2.Sym, .sl none 2 (List.map row_Tree a2.Kids)]])] [] = some (.ret (.p (bv v1)), []) := by have q := spec9 n a0 [a2] v1 e_v1; simp only [List.map_cons, List.map_nil, row_Tree_eq] at q ⊢; exact q
 by_cases c1 : v1 = true
 ·have h := iteT h c1
  by_cases c2 : 40 < (a1.length : Int)
  ·have h := iteT h c2
   obtain ⟨v2, e_v2, h⟩ := ob h
   have e_v2c := spec10 n v2 e_v2
   simp only [go_sem, e_v1c, c1, c2, e_v2c]
   injection h with h; subst h
   exact Sat.ok hQ
  ·have h := iteF h c2
   by_cases c3 : 20000 < (a3.length : Int)
   ·have h := iteT h c3
    obtain ⟨v3, e_v3, h⟩ := ob h
    have e_v3c := spec10 n v3 e_v3
    simp only [go_sem, e_v1c, c1, c2, c3, e_v3c]
    injection h with h; subst h
    exact Sat.ok hQ
   ·have h := iteF h c3
    obtain ⟨v4, e_v4, h⟩ := ob h
    have e_v4c := spec34 n a0 a1 a2 v4 e_v4
    obtain ⟨v5, e_v5, h⟩ := ob h
    have e_v5c := spec35 n a0 a1 a2 v5 e_v5
    obtain ⟨v6, e_v6, h⟩ := ob h
    have e_v6c := spec36 n a0 a1 a3 v6 e_v6
    obtain ⟨v7, e_v7, h⟩ := ob h
    have e_v7c := spec37 n a0 a1 a3 v7 e_v7
    by_cases c4 : v4.1 = v5.1
    ·have h := iteT h c4
     have c4b : (v4.1 == v5.1) = true := beqT c4
     by_cases c5 : v4.2 = v5.2
     ·have h := iteT h c5
      have c5b : (v4.2 != v5.2) = false := bneF c5
      obtain ⟨v8, e_v8, h⟩ := ob h
      have e_v8c := spec24 n v6.1 v7.1 v8 e_v8
      by_cases c6 : v8 = true
      ·have h := iteT h c6
       by_cases c7 : v6.2 = v7.2
       ·have h := iteT h c7
        have c7b : (v6.2 != v7.2) = false := bneF c7
        by_cases c8 : v4.2 = 0
        ·have h := iteT h c8
         have c8b : (v4.2 == 0) = true := beqT c8
         by_cases c9 : (v4.1.length : Int) ≤ 16384
         ·have h := iteT h c9
          obtain ⟨v9, e_v9, h⟩ := ob h
          have e_v9c := spec36 n a0 a1 v4.1 v9 e_v9
          by_cases c10 : v9.2 = 0
          ·have h := iteT h c10
           have c10b : (v9.2 == 0) = true := beqT c10
           obtain ⟨v10, e_v10, h⟩ := ob h
           have e_v10c := spec24 n v9.1 a2 v10 e_v10
           by_cases c11 : v10 = true
           ·have h := iteT h c11
            obtain ⟨v11, e_v11, h⟩ := ob h
            have e_v11c := spec10 n v11 e_v11
            simp only [go_sem, e_v1c, c1, c2, c3, e_v4c, e_v5c, e_v6c, e_v7c, c4b, c5b, e_v8c, c6, c7b, c8b, c9, e_v9c, c10b, e_v10c, c11, e_v11c]
            injection h with h; subst h
            exact Sat.ok hQ
           ·have h := iteF h c11
            have c11 := eq_false_of_ne_true c11
            simp only [go_sem, e_v1c, c1, c2, c3, e_v4c, e_v5c, e_v6c, e_v7c, c4b, c5b, e_v8c, c6, c7b, c8b, c9, e_v9c, c10b, e_v10c, c11]
            injection h with h; subst h
            exact Sat.ok hQ
          ·have h := iteF h c10
           have c10b : (v9.2 == 0) = false := beqF c10
           simp only [go_sem, e_v1c, c1, c2, c3, e_v4c, e_v5c, e_v6c, e_v7c, c4b, c5b, e_v8c, c6, c7b, c8b, c9, e_v9c, c10b]
           injection h with h; subst h
           exact Sat.ok hQ
         ·have h := iteF h c9
          obtain ⟨v12, e_v12, h⟩ := ob h
          have e_v12c := spec10 n v12 e_v12
          simp only [go_sem, e_v1c, c1, c2, c3, e_v4c, e_v5c, e_v6c, e_v7c, c4b, c5b, e_v8c, c6, c7b, c8b, c9, e_v12c]
          injection h with h; subst h
          exact Sat.ok hQ
        ·have h := iteF h c8
         have c8b : (v4.2 == 0) = false := beqF c8
         obtain ⟨v13, e_v13, h⟩ := ob h
         have e_v13c := spec10 n v13 e_v13
         simp only [go_sem, e_v1c, c1, c2, c3, e_v4c, e_v5c, e_v6c, e_v7c, c4b, c5b, e_v8c, c6, c7b, c8b, e_v13c]
         injection h with h; subst h
         exact Sat.ok hQ
       ·have h := iteF h c7
        have c7b : (v6.2 != v7.2) = true := bneT c7
        simp only [go_sem, e_v1c, c1, c2, c3, e_v4c, e_v5c, e_v6c, e_v7c, c4b, c5b, e_v8c, c6, c7b]
        injection h with h; subst h
        exact Sat.ok hQ
      ·have h := iteF h c6
       have c6 := eq_false_of_ne_true c6
       simp only [go_sem, e_v1c, c1, c2, c3, e_v4c, e_v5c, e_v6c, e_v7c, c4b, c5b, e_v8c, c6]
       injection h with h; subst h
       exact Sat.ok hQ
     ·have h := iteF h c5
      have c5b : (v4.2 != v5.2) = true := bneT c5
      simp only [go_sem, e_v1c, c1, c2, c3, e_v4c, e_v5c, e_v6c, e_v7c, c4b, c5b]
      injection h with h; subst h
      exact Sat.ok hQ
    ·have h := iteF h c4
     have c4b : (v4.1 == v5.1) = false := beqF c4
     simp only [go_sem, e_v1c, c1, c2, c3, e_v4c, e_v5c, e_v6c, e_v7c, c4b]
     injection h with h; subst h
     exact Sat.ok hQ
 ·have h := iteF h c1
  have c1 := eq_false_of_ne_true c1
  obtain ⟨v14, e_v14, h⟩ := ob h
  have e_v14c := spec10 n v14 e_v14
  simp only [go_sem, e_v1c, c1, e_v14c]
  injection h with h; subst h
  exact Sat.ok hQ
end Go.AM.S01

namespace Go.AM.S01
open Go Go.Proofs Go.AM
set_option linter.unusedVariables false
set_option maxRecDepth 100000
set_option maxHeartbeats 4000000
theorem isL_ne {c : UInt8} (h : isL (c.toNat : Int) = true) : c ≠ 32 ∧ c ≠ 0 ∧ c ≠ 41 ∧ c ≠ 40 := by
 refine ⟨?_, ?_, ?_, ?_⟩ <;> (rintro rfl; exact absurd h (by decide))
theorem skT {names : List Str} {r : List Int} (hv : nmB names (r.length : Int) = true) {t : Tree} (hs : shT r t = true) (Y : Str) : skp (wrT names t ++ Y) = wrT names t ++ Y := by
 obtain ⟨h1, _, h3⟩ := sh_out hs
 obtain ⟨n1, n2, n3⟩ := nm_at hv h1
 obtain ⟨⟨c, q, e, hc⟩, _⟩ := name_out n2
 rw [wrT_eq, e]
 simp only [List.cons_append]
 rw [skp_cons, if_neg (isL_ne hc).1]
theorem rtK {names : List Str} {r : List Int} (hv : nmB names (r.length : Int) = true) {rd : Str → Option (Tree × Str)} {f : Nat} (rest : Str) : ∀ l : List Tree,
 (∀ x ∈ l, ∀ s' rest', rest'.takeWhile isLD = [] → skp s' = wrT names x ++ rest' → s'.length < f → rd s' = some (x, rest')) → shL r l = true → ∀ (b : Bool) (acc : List Tree), (wrK names b l ++ 41 :: rest).length < f → PK rd l.length b (wrK names b l ++ 41 :: rest) acc = some (acc ++ l, 41 :: rest)
 | [], _, _, b, acc, _ => by rw [wrK, List.length_nil, PK, List.append_nil, List.nil_append]
 | x :: q, ih, hs, b, acc, hf => by
  obtain ⟨s1, s2⟩ := sh_cons hs
  have hT : (wrK names true q ++ 41 :: rest).takeWhile isLD = [] := by
   cases q with
   | nil => rw [wrK, List.nil_append, List.takeWhile_cons, if_neg (by decide)]
   | cons y q =>
    rw [wrK]
    simp only [if_true, List.cons_append]
    rw [List.takeWhile_cons, if_neg (by decide)]
  have e0 : wrK names b (x :: q) ++ 41 :: rest = (if b = true then [44, 32] else []) ++ (wrT names x ++ (wrK names true q ++ 41 :: rest)) := by rw [wrK]; simp
  rw [e0] at hf ⊢
  rw [List.length_append] at hf
  have tail : ∀ s', skp s' = wrT names x ++ (wrK names true q ++ 41 :: rest) → s'.length < f → ((rd s').bind fun p => PK rd q.length true p.2 (acc ++ [p.1])) = some (acc ++ x :: q, 41 :: rest) := by
   intro s' hs' hl
   rw [ih x (by simp) s' _ hT hs' hl, Option.bind_some]
   dsimp only
   rw [rtK hv rest q (fun y hy => ih y (List.mem_cons_of_mem x hy)) s2 true _ (by rw [List.length_append] at hf; omega), List.append_assoc]
   rfl
  rw [List.length_cons, PK]
  cases b with
  | false =>
   rw [if_neg Bool.false_ne_true, if_neg Bool.false_ne_true, List.nil_append, Option.bind_some]
   exact tail _ (skT hv s1 _) (by omega)
  | true =>
   rw [if_pos rfl, if_pos rfl]
   have hk : tk 44 ([44, 32] ++ (wrT names x ++ (wrK names true q ++ 41 :: rest))) = some (32 :: (wrT names x ++ (wrK names true q ++ 41 :: rest))) := by
    unfold tk
    simp only [List.cons_append, List.nil_append]
    rw [skp_cons, if_neg (by decide)]
    rfl
   rw [hk, Option.bind_some]
   refine tail _ ?_ ?_
   ·rw [skp_cons, if_pos rfl]; exact skT hv s1 _
   ·simp only [if_true, List.length_cons, List.length_nil] at hf ⊢; omega
theorem ts_mem : ∀ {l : List Tree} {x : Tree}, x ∈ l → tsT x ≤ tsL l
 | y :: l, x, h => by
  rw [tsL]
  rcases List.mem_cons.1 h with rfl | h
  ·omega
  ·have := ts_mem h; omega
theorem sh_mem {r : List Int} : ∀ {l : List Tree} {x : Tree}, x ∈ l → shL r l = true → shT r x = true
 | y :: l, x, h, hs => by
  obtain ⟨s1, s2⟩ := sh_cons hs
  rcases List.mem_cons.1 h with rfl | h
  ·exact s1
  ·exact sh_mem h s2
theorem rt {names : List Str} {r : List Int} (hv : nmB names (r.length : Int) = true) : ∀ (k : Nat) (t : Tree), tsT t < k → shT r t = true → ∀ (f : Nat) (s rest : Str), rest.takeWhile isLD = [] → skp s = wrT names t ++ rest → s.length < f →
 PT names r f s = some (t, rest)
 | 0, t, hk, _, _, _, _, _, _, _ => by omega
 | k + 1, t, _, _, 0, s, rest, _, _, hf => by omega
 | k + 1, t, hk, hl, f + 1, s, rest, hT, hsk, hf => by
  obtain ⟨h1, h2, h3⟩ := sh_out hl
  obtain ⟨n1, n2, n3⟩ := nm_at hv h1
  obtain ⟨_, htw⟩ := name_out n2
  rw [tsT_eq] at hk
  have hsl := skp_len s
  have e0 : wrT names t ++ rest = nmA names t.Sym ++ ((if t.Kids.length = 0 then [] else 40 :: (wrK names false t.Kids ++ [41])) ++ rest) := by rw [wrT_eq, List.append_assoc]
  have hT2 : ((if t.Kids.length = 0 then [] else 40 :: (wrK names false t.Kids ++ [41])) ++ rest : Str).takeWhile isLD = [] := by
   split
   ·exact hT
   ·rw [List.cons_append, List.takeWhile_cons, if_neg (by decide)]
  obtain ⟨t1, t2⟩ := tw_app (tw_mem htw) hT2
  rw [← e0, ← hsk] at t1 t2
  have t1 : wd s = nmA names t.Sym := t1
  have t2 : aft s = (if t.Kids.length = 0 then [] else 40 :: (wrK names false t.Kids ++ [41])) ++ rest := t2
  have hal := (aft_out (by rw [t1]; exact n2)).2
  rw [PT, t1, if_pos (And.intro n2 (by rw [n3]; exact h1.1)), n3]
  by_cases ck : t.Kids.length = 0
  ·rw [if_pos (by omega), t2, if_pos ck, List.nil_append]
   have : (⟨t.Sym, []⟩ : Tree) = t := by
    cases t with
    | mk s k => simp only [List.length_eq_zero_iff] at ck; rw [ck]
   rw [this]
  ·rw [if_neg (by omega), t2, if_neg ck]
   rw [t2, if_neg ck] at hal
   have hk1 : tk 40 (40 :: (wrK names false t.Kids ++ [41]) ++ rest) = some (wrK names false t.Kids ++ 41 :: rest) := by
    unfold tk
    simp only [List.cons_append, List.append_assoc, List.nil_append]
    rw [skp_cons, if_neg (by decide)]
    rfl
   rw [hk1, Option.bind_some]
   have hn : (rk r t.Sym).toNat = t.Kids.length := by omega
   simp only [List.cons_append, List.append_assoc, List.nil_append, List.length_cons] at hal
   rw [hn, rtK hv (f := f) rest t.Kids (fun x hx s' rest' q1 q2 q3 => rt hv k x (by have := ts_mem hx; omega) (sh_mem hx h3) f s' rest' q1 q2 q3) h3 false [] (by omega), Option.bind_some]
   dsimp only
   have hk2 : tk 41 (41 :: rest) = some rest := by
    unfold tk
    rw [skp_cons, if_neg (by decide)]
    rfl
   rw [hk2, Option.bind_some, List.nil_append]
   have : (⟨t.Sym, t.Kids⟩ : Tree) = t := by cases t; rfl
   rw [this]
theorem back_eq {names : List Str} {r : List Int} {t : Tree} (c : tvld r t = true) (d : nmB names (r.length : Int) = true) (hs : ((wrT names t).length : Int) ≤ 16384) : pP names r (wrT names t) = (t, 0) := by
 obtain ⟨c1, c2, c3⟩ := tvld_le c
 unfold pP
 rw [if_pos c1, if_pos d, if_neg (by omega)]
 unfold PP
 have e1 := skT d c3 []
 rw [List.append_nil] at e1
 rw [rt d (tsT t + 1) t (by omega) c3 _ (wrT names t) [] rfl (by rw [e1, List.append_nil]) (by omega)]
 dsimp only
 rw [if_pos skp_nil, if_neg (by omega)]
theorem PP_sz (names : List Str) (r : List Int) (t : Str) : tsT (pP names r t).1 ≤ 300 := by
 have z : tsT (⟨0, []⟩ : Tree) ≤ 300 := by rw [tsT, tsL]; omega
 unfold pP
 split
 ·split
  ·split
   ·exact z
   ·unfold PP
    split
    ·split
     ·split
      ·exact z
      ·dsimp only; omega
     ·exact z
    ·exact z
  ·exact z
 ·exact z
theorem few1 {n : Nat} {r : List Int} {x : Tree} (dx : tdT x < n) (wx : twT x = true) :
 law01_few n ⟨r⟩ [x] = some (decide ((tsT x : Int) ≤ 2000) && decide ((r.length : Int) ≤ 40)) := by
 unfold law01_few
 rw [rangeL, if_pos (by simp only [List.length_cons, List.length_nil]; omega)]
 simp only [rangeC]
 rw [tfew_eq dx wx (by omega) (by omega)]
 simp only [Option.bind_some]
 cases decide ((tsT x : Int) ≤ 2000) <;> rfl
theorem texts_law (m : Nat) (r : List Int) (names : List Str) (t : Tree) (s : Str) (hd : tdT t < m + 100020) (hw : twT t = true) : law01_TreeTexts (m + 100020) ⟨r⟩ names t s = some true := by
 unfold law01_TreeTexts
 rw [few1 hd hw, show m + 100020 = (m + 100000) + 20 from rfl, awake_eq, show m + 100000 + 20 = m + 100020 from rfl]
 simp only [Option.bind_some]
 by_cases c1 : (decide ((tsT t : Int) ≤ 2000) && decide ((r.length : Int) ≤ 40)) = true
 ·rw [if_pos c1]
  simp only [Bool.and_eq_true, decide_eq_true_eq] at c1
  by_cases c2 : 40 < (names.length : Int)
  ·rw [if_pos c2]
  rw [if_neg c2]
  by_cases c3 : 20000 < (s.length : Int)
  ·rw [if_pos c3]
  rw [if_neg c3]
  obtain ⟨p1, p2⟩ := print_eq (r := r) (names := names) hd (by omega) hw (by omega)
  rw [p1, p2, parse_eq (by omega) (by omega), rparse_eq (by omega) (by omega)]
  simp only [Option.bind_some, if_true]
  have z := PP_sz names r s
  have z2 := td_le (pP names r s).1
  rw [same_refl (x := (pP names r s).1) (by omega) (twT_of _ (by omega))]
  simp only [Option.bind_some, if_true]
  by_cases c4 : (prP names r t).2 = 0
  ·rw [if_pos c4]
   by_cases c5 : ((prP names r t).1.length : Int) ≤ 16384
   ·rw [if_pos c5, parse_eq (by omega) (by omega), Option.bind_some]
    unfold prP at c4 c5 ⊢
    split at c4
    ·rename_i c
     rw [if_pos c] at c5 ⊢
     split at c4
     ·rename_i d
      rw [if_pos d] at c5 ⊢
      dsimp only at c5 ⊢
      rw [back_eq c d c5]
      dsimp only
      rw [if_pos rfl, same_refl hd hw]
      rfl
     ·cases c4
    ·cases c4
   ·rw [if_neg c5]
  ·rw [if_neg c4]
 ·rw [if_neg c1]
theorem d60 : (T.at 51).d = .sl 9 := rfl
theorem sz9 : (T.at 9).size = 1 := rfl
theorem wt60 {n : Nat} {cs : List PV} (h : wt T n 51 cs) : ∃ xs : List Str, cs = [.sl none 1 (xs.map rowS)] := by
 obtain ⟨xs, e, hl, hx⟩ := wt_slM (row := rowS) (P := fun _ => True) d60 h (fun m r _ hr => by
  obtain ⟨s, e⟩ := wt9 hr
  exact ⟨s, e, trivial⟩)
 exact ⟨xs, by rw [e, sz9]⟩
theorem law8 (pss : List (List PV)) (h : wtAll T [28, 51, 24, 9] pss) : ∃ σ', call Tryd.prog T H (.fn 8) (argsOf T [28, 51, 24, 9] pss) [] = some (.ret (.p (.lit (.bool true))), σ') := by
 obtain ⟨p1, r1, rfl, ⟨n1, w1⟩, p2, r2, rfl, ⟨n2, w2⟩, p3, r3, rfl, ⟨n3, w3⟩, p4, r4, rfl, ⟨n4, w4⟩, rfl⟩ := h
 obtain ⟨r, rfl⟩ := wt28 w1
 obtain ⟨names, rfl⟩ := wt60 w2
 obtain ⟨x, rfl, hx⟩ := wt24 n3 p3 w3
 obtain ⟨s, rfl⟩ := wt9 w4
 have := spec8 (tdT x + 100020) ⟨r⟩ names x s true (texts_law (tdT x) r names x s (by omega) hx)
 rw [row_Tree_eq]
 exact ⟨[], this⟩
theorem closed8 : closedB T [3, 9, 22, 24, 26, 28, 51] = true := by decide +kernel
end Go.AM.S01

