/- What the functions of this seat compute on the abstract machine, function by function, and the plain laws. -/
import Derived.Test.YtldbjaobpkdhnaaDoorTab
import Derived.Test.YtldbjaobpkdhnaaDoorAmVal
import Derived.Test.YtldbjaobpkdhnaaDoorAmWt
set_option linter.unusedVariables false
set_option linter.unusedSimpArgs false
namespace Go.AM.S03
open Go Go.Proofs Go.AM
set_option maxRecDepth 100000


theorem loop18_0 (K : Ex × S → Option (Out × List AObj)) (nl : Bool) (sz : Nat) (xs : List Int) (hsz : xs ≠ [] → sz = 1) (hlen : xs.length < 9223372036854775808) (n : Int)
    (hN : K (.normal, ⟨[], [], [], none, false⟩) = some (.ret (.p (bv false)), [])) (hR : ∀ e σ, get e 4 = .p (bv true) → K (.ret, ⟨e, σ, [], none, false⟩) = some (.ret (.p (bv true)), [])) :
    ∀ (d i : Nat)  (e : Env), xs.length - i = d → i ≤ xs.length → maskEnv e [1,7,8,9] = [(1, .p (iv n)), (7, .p (.sl nl sz (xs.map rowI))), (8, .p (iv xs.length)), (9, .p (iv i))] →
    run Tryd.prog T H 18 0 0 (.loop L18_0) ⟨e, [], [], none, false⟩ (blockK 0 (some []) K) = some (.ret (.p (bv ((xs.drop i).contains n))), []) := by
  intro d
  induction d with
  | zero =>
    intro i  e hd hi  he
    have h0 : ¬ ((i : Int) < xs.length) := by omega
    try rw [List.drop_of_length_le (by omega : xs.length ≤ i)]
    rw [run_loop_mask (live := [1,7,8,9]) (h := by simp only [go_sem])]; dsimp only; rw [he]
    conv => lhs; arg 7; unfold L18_0 loopAt c18 Tryd.f18; simp only [loopIn, Option.getD_some, if_true]
    simp only [go_sem, h0, hN]
  | succ d ihd =>
    intro i  e hd hi  he
    have h0 : ((i : Int) < xs.length) := by omega
    have h1 : (0 : Int) ≤ i := by omega
    obtain ⟨x, hx⟩ : ∃ x, xs[i]? = some x := ⟨xs[i]'(by omega), List.getElem?_eq_getElem (by omega)⟩
    have hmem : x ∈ xs := List.mem_of_getElem? hx
    have h2 : (xs.map rowI)[i]? = some ([iv x]) := by rw [map_get, hx]; rfl
    have hs : sz = 1 := hsz (by intro e; rw [e] at hx; simp at hx)
    subst hs
    have w1 : IntKind.i64.wrap (i + 1) = ((i + 1 : Nat) : Int) := by rw [wrapN] <;> omega
    try rw [drop_get hx]
    rw [run_loop_mask (live := [1,7,8,9]) (h := by simp only [go_sem])]; dsimp only; rw [he]
    conv => lhs; arg 7; unfold L18_0 loopAt c18 Tryd.f18; simp only [loopIn, Option.getD_some, if_true]
    by_cases hb : x = n
    · subst hb
      simp only [go_sem, h0, h1, h2]
      rw [hR _ _ rfl]
    · have hb2 : (x == n) = false := by simpa using hb
      have hb3 : (n == x) = false := by simpa using fun e => hb e.symm
      simp only [go_sem, h0, h1, h2, hb2, hb3, w1]
      exact ihd (i + 1) _ (by omega) (by omega) rfl

theorem spec18 (nl : Bool) (sz : Nat) (xs : List Int) (n : Int) (hsz : xs ≠ [] → sz = 1) (hlen : xs.length < 9223372036854775808) :
    call Tryd.prog T H (.fn 18) [.p (.sl nl sz (xs.map rowI)), .p (iv n)] [] = some (.ret (.p (bv (xs.contains n))), []) := by
  rw [call18]
  conv => lhs; arg 7; unfold c18 Tryd.f18; simp only [Option.getD_some]
  simp only [go_sem, List.length_map]
  exact (loop18_0 _ nl sz xs hsz hlen n (by simp only [go_sem]) (fun e σ he => by simp only [go_sem, he]) xs.length 0 _ (by omega) (by omega) rfl).trans (by simp)

theorem loop63_0 (K : Ex × S → Option (Out × List AObj)) (nl : Bool) (sz : Nat) (xs : List Int) (hsz : xs ≠ [] → sz = 1) (hlen : xs.length < 9223372036854775808) (nl2 : Bool) (sz2 : Nat) (ys : List Int) (hsz2 : ys ≠ [] → sz2 = 1) (hlen2 : ys.length < 9223372036854775808)
    (hN : K (.normal, ⟨[], [], [], none, false⟩) = some (.ret (.p (bv false)), [])) (hR : ∀ e σ, get e 4 = .p (bv true) → K (.ret, ⟨e, σ, [], none, false⟩) = some (.ret (.p (bv true)), [])) :
    ∀ (d i : Nat)  (e : Env), xs.length - i = d → i ≤ xs.length → maskEnv e [1,7,8,9] = [(1, .p (.sl nl2 sz2 (ys.map rowI))), (7, .p (.sl nl sz (xs.map rowI))), (8, .p (iv xs.length)), (9, .p (iv i))] →
    run Tryd.prog T H 63 0 0 (.loop L63_0) ⟨e, [], [], none, false⟩ (blockK 0 (some []) K) = some (.ret (.p (bv ((xs.drop i).any fun x => ys.contains x))), []) := by
  intro d
  induction d with
  | zero =>
    intro i  e hd hi  he
    have h0 : ¬ ((i : Int) < xs.length) := by omega
    try rw [List.drop_of_length_le (by omega : xs.length ≤ i)]
    rw [run_loop_mask (live := [1,7,8,9]) (h := by simp only [go_sem])]; dsimp only; rw [he]
    conv => lhs; arg 7; unfold L63_0 loopAt c63 Tryd.f63; simp only [loopIn, Option.getD_some, if_true]
    simp only [go_sem, h0, hN, List.any_nil]
  | succ d ihd =>
    intro i  e hd hi  he
    have h0 : ((i : Int) < xs.length) := by omega
    have h1 : (0 : Int) ≤ i := by omega
    obtain ⟨x, hx⟩ : ∃ x, xs[i]? = some x := ⟨xs[i]'(by omega), List.getElem?_eq_getElem (by omega)⟩
    have hmem : x ∈ xs := List.mem_of_getElem? hx
    have h2 : (xs.map rowI)[i]? = some ([iv x]) := by rw [map_get, hx]; rfl
    have hs : sz = 1 := hsz (by intro e; rw [e] at hx; simp at hx)
    subst hs
    have w1 : IntKind.i64.wrap (i + 1) = ((i + 1 : Nat) : Int) := by rw [wrapN] <;> omega
    try rw [drop_get hx]
    rw [run_loop_mask (live := [1,7,8,9]) (h := by simp only [go_sem])]; dsimp only; rw [he]
    conv => lhs; arg 7; unfold L63_0 loopAt c63 Tryd.f63; simp only [loopIn, Option.getD_some, if_true]
    have hc := spec18 nl2 sz2 ys x hsz2 hlen2
    cases hb : ys.contains x with
    | true =>
      rw [hb] at hc
      simp only [go_sem, h0, h1, h2, hc, List.any_cons, hb]
      rw [hR _ _ rfl]
    | false =>
      rw [hb] at hc
      simp only [go_sem, h0, h1, h2, hc, w1, List.any_cons, hb]
      exact ihd (i + 1) _ (by omega) (by omega) rfl

theorem spec63 (nl : Bool) (sz : Nat) (xs : List Int) (hsz : xs ≠ [] → sz = 1) (hlen : xs.length < 9223372036854775808) (nl2 : Bool) (sz2 : Nat) (ys : List Int) (hsz2 : ys ≠ [] → sz2 = 1) (hlen2 : ys.length < 9223372036854775808) :
    call Tryd.prog T H (.fn 63) [.p (.sl nl sz (xs.map rowI)), .p (.sl nl2 sz2 (ys.map rowI))] [] = some (.ret (.p (bv (xs.any fun x => ys.contains x))), []) := by
  rw [call63]
  conv => lhs; arg 7; unfold c63 Tryd.f63; simp only [Option.getD_some]
  simp only [go_sem, List.length_map]
  exact (loop63_0 _ nl sz xs hsz hlen nl2 sz2 ys hsz2 hlen2 (by simp only [go_sem]) (fun e σ he => by simp only [go_sem, he]) xs.length 0 _ (by omega) (by omega) rfl).trans (by simp)

theorem loop15_0 (K : Ex × S → Option (Out × List AObj)) (nl : Bool) (sz : Nat) (xs : List Int) (hsz : xs ≠ [] → sz = 1) (hlen : xs.length < 9223372036854775808) (nl2 : Bool) (sz2 : Nat) (ys : List Int) (hsz2 : ys ≠ [] → sz2 = 1) (hll : xs.length = ys.length)
    (hN : K (.normal, ⟨[], [], [], none, false⟩) = some (.ret (.p (bv true)), [])) (hR : ∀ e σ, get e 4 = .p (bv false) → K (.ret, ⟨e, σ, [], none, false⟩) = some (.ret (.p (bv false)), [])) :
    ∀ (d i : Nat)  (e : Env), xs.length - i = d → i ≤ xs.length → maskEnv e [0,1,12,13] = [(0, .p (.sl nl sz (xs.map rowI))), (1, .p (.sl nl2 sz2 (ys.map rowI))), (12, .p (iv xs.length)), (13, .p (iv i))] →
    run Tryd.prog T H 15 0 0 (.loop L15_0) ⟨e, [], [], none, false⟩ (blockK 0 (some []) K) = some (.ret (.p (bv (decide (xs.drop i = ys.drop i)))), []) := by
  intro d
  induction d with
  | zero =>
    intro i  e hd hi  he
    have h0 : ¬ ((i : Int) < xs.length) := by omega
    try rw [List.drop_of_length_le (by omega : xs.length ≤ i)]
    rw [run_loop_mask (live := [0,1,12,13]) (h := by simp only [go_sem])]; dsimp only; rw [he]
    conv => lhs; arg 7; unfold L15_0 loopAt c15 Tryd.f15; simp only [loopIn, Option.getD_some, if_true]
    rw [List.drop_of_length_le (by omega : ys.length ≤ i)]
    simp only [go_sem, h0, hN]
  | succ d ihd =>
    intro i  e hd hi  he
    have h0 : ((i : Int) < xs.length) := by omega
    have h1 : (0 : Int) ≤ i := by omega
    obtain ⟨x, hx⟩ : ∃ x, xs[i]? = some x := ⟨xs[i]'(by omega), List.getElem?_eq_getElem (by omega)⟩
    have hmem : x ∈ xs := List.mem_of_getElem? hx
    have h2 : (xs.map rowI)[i]? = some ([iv x]) := by rw [map_get, hx]; rfl
    have hs : sz = 1 := hsz (by intro e; rw [e] at hx; simp at hx)
    subst hs
    have w1 : IntKind.i64.wrap (i + 1) = ((i + 1 : Nat) : Int) := by rw [wrapN] <;> omega
    try rw [drop_get hx]
    rw [run_loop_mask (live := [0,1,12,13]) (h := by simp only [go_sem])]; dsimp only; rw [he]
    conv => lhs; arg 7; unfold L15_0 loopAt c15 Tryd.f15; simp only [loopIn, Option.getD_some, if_true]
    obtain ⟨y, hy⟩ : ∃ y, ys[i]? = some y := ⟨ys[i]'(by omega), List.getElem?_eq_getElem (by omega)⟩
    have h3 : (ys.map rowI)[i]? = some [iv y] := by rw [map_get, hy]; rfl
    have hs2 : sz2 = 1 := hsz2 (by intro e; rw [e] at hy; simp at hy)
    subst hs2
    rw [drop_get hy]
    by_cases hb : x = y
    · subst hb
      have hb3 : (x != x) = false := by simp
      simp only [go_sem, h0, h1, h2, h3, hb3, w1, List.cons.injEq]
      exact ihd (i + 1) _ (by omega) (by omega) rfl
    · have hb2 : (x != y) = true := by simpa using hb
      simp only [go_sem, h0, h1, h2, h3, hb2, w1, List.cons.injEq, hb, false_and]
      rw [hR _ _ rfl]

theorem spec15 (nl : Bool) (sz : Nat) (xs : List Int) (hsz : xs ≠ [] → sz = 1) (hlen : xs.length < 9223372036854775808) (nl2 : Bool) (sz2 : Nat) (ys : List Int) (hsz2 : ys ≠ [] → sz2 = 1) :
    call Tryd.prog T H (.fn 15) [.p (.sl nl sz (xs.map rowI)), .p (.sl nl2 sz2 (ys.map rowI))] [] = some (.ret (.p (bv (decide (xs = ys)))), []) := by
  rw [call15]
  conv => lhs; arg 7; unfold c15 Tryd.f15; simp only [Option.getD_some]
  by_cases hll : xs.length = ys.length
  · have hb : ((xs.length : Int) != ys.length) = false := by simp [hll]
    simp only [go_sem, List.length_map, hb]
    exact (loop15_0 _ nl sz xs hsz hlen nl2 sz2 ys hsz2 hll (by simp only [go_sem]) (fun e σ he => by simp only [go_sem, he]) xs.length 0 _ (by omega) (by omega) rfl).trans (by simp)
  · have hb : ((xs.length : Int) != ys.length) = true := by simp; omega
    have hne : xs ≠ ys := fun e => hll (by rw [e])
    simp only [go_sem, List.length_map, hb, hne]

theorem loop59_0 (K : Ex × S → Option (Out × List AObj)) (nl : Bool) (sz : Nat) (xs : List Tr) (hsz : xs ≠ [] → sz = 2) (hlen : xs.length < 9223372036854775808) (m : Int) (hm : 0 ≤ m) (hm2 : m < 4611686018427387904) (ob : AObj)
    (ih : ∀ x, x ∈ xs → ∀ m : Int, 0 ≤ m → m < 4611686018427387904 → call Tryd.prog T H (.fn 59) [.p (.agg (rowT x)), .p (iv m)] [] = some (.ret (.p (iv (min (x.size : Int) (m + 1)))), []))
     :
    ∀ (d i : Nat) (n : Int) (e : Env), xs.length - i = d → i ≤ xs.length → 0 ≤ n → n ≤ m + 1 → maskEnv e [1,5,9,10,11] = [(1, .p (iv m)), (5, .p (iv n)), (9, .p (.sl nl sz (xs.map rowT))), (10, .p (iv xs.length)), (11, .p (iv i))] →
    run Tryd.prog T H 59 0 0 (.loop L59_0) ⟨e, [ob], [], none, false⟩ (blockK 0 (some [5]) K) = K (.normal, ⟨[(5, .p (iv (min (n + (sizesT (xs.drop i) : Int)) (m + 1))))], [ob], [], none, false⟩) := by
  intro d
  induction d with
  | zero =>
    intro i n e hd hi c1 c2 he
    have h0 : ¬ ((i : Int) < xs.length) := by omega
    try rw [List.drop_of_length_le (by omega : xs.length ≤ i)]
    rw [run_loop_mask (live := [1,5,9,10,11]) (h := by simp only [go_sem])]; dsimp only; rw [he]
    conv => lhs; arg 7; unfold L59_0 loopAt c59 Tryd.f59; simp only [loopIn, Option.getD_some, if_true]
    have e' : min (n + (sizesT [] : Int)) (m + 1) = n := by rw [sizesT]; omega
    rw [e']
    simp only [go_sem, h0]
  | succ d ihd =>
    intro i n e hd hi c1 c2 he
    have h0 : ((i : Int) < xs.length) := by omega
    have h1 : (0 : Int) ≤ i := by omega
    obtain ⟨x, hx⟩ : ∃ x, xs[i]? = some x := ⟨xs[i]'(by omega), List.getElem?_eq_getElem (by omega)⟩
    have hmem : x ∈ xs := List.mem_of_getElem? hx
    have h2 : (xs.map rowT)[i]? = some (rowT x) := by rw [map_get, hx]; rfl
    have hs : sz = 2 := hsz (by intro e; rw [e] at hx; simp at hx)
    subst hs
    have w1 : IntKind.i64.wrap (i + 1) = ((i + 1 : Nat) : Int) := by rw [wrapN] <;> omega
    try rw [drop_get hx]
    rw [run_loop_mask (live := [1,5,9,10,11]) (h := by simp only [go_sem])]; dsimp only; rw [he]
    conv => lhs; arg 7; unfold L59_0 loopAt c59 Tryd.f59; simp only [loopIn, Option.getD_some, if_true]
    obtain ⟨s, nl', sz', ks⟩ := x
    have hc := fun m h1 h2 => ih _ hmem m h1 h2
    rw [rowT_mk] at h2
    rw [rowT_mk] at hc
    by_cases hle : n ≤ m
    · have hc' := hc (m - n) (by omega) (by omega)
      have w2 : IntKind.i64.wrap (m - n) = m - n := by rw [wrapN] <;> omega
      have w3 : IntKind.i64.wrap (n + min ((Tr.mk s nl' sz' ks).size : Int) (m - n + 1)) = n + min ((Tr.mk s nl' sz' ks).size : Int) (m - n + 1) := by rw [wrapN] <;> omega
      simp only [go_sem, h0, h1, h2, hle, w1, w2, w3, hc']
      refine (ihd (i + 1) _ _ (by omega) (by omega) ?_ ?_ rfl).trans (congrArg (fun z => K (.normal, ⟨[(5, .p (iv z))], [ob], [], none, false⟩)) ?_)
      · omega
      · omega
      · rw [sizesT]; omega
    · simp only [go_sem, h0, h1, h2, hle, w1]
      refine (ihd (i + 1) _ _ (by omega) (by omega) ?_ ?_ rfl).trans (congrArg (fun z => K (.normal, ⟨[(5, .p (iv z))], [ob], [], none, false⟩)) ?_)
      · omega
      · omega
      · rw [sizesT]; omega

theorem spec59 : ∀ (t : Tr), t.ok → ∀ m : Int, 0 ≤ m → m < 4611686018427387904 → call Tryd.prog T H (.fn 59) [.p (.agg (rowT t)), .p (iv m)] [] = some (.ret (.p (iv (min (t.size : Int) (m + 1)))), []) := by
  refine Tr.ind fun s nl sz ks ih hok m hm hm2 => ?_
  rw [Tr.ok_mk] at hok
  obtain ⟨h64, hsz, hlen, hks⟩ := hok
  rw [call59]
  conv => lhs; arg 7; unfold c59 Tryd.f59; simp only [Option.getD_some]
  rw [rowT_mk, Tr.size_mk]
  simp only [go_sem, List.length_map]
  refine (loop59_0 _ nl sz ks hsz hlen m hm hm2 _ (fun x hx m h1 h2 => ih x hx (hks x hx) m h1 h2) ks.length 0 1 _ (by omega) (by omega) (by omega) (by omega) rfl).trans ?_
  simp only [go_sem, Int.natCast_add, Int.cast_ofNat_Int]

theorem spec20 (t : Tr) (hok : t.ok) (m : Int) (hm : 0 ≤ m) (hm2 : m < 4611686018427387904) :
    call Tryd.prog T H (.fn 20) [.p (.agg (rowT t)), .p (iv m)] [] = some (.ret (.p (bv (decide ((t.size : Int) ≤ m)))), []) := by
  rw [call20]
  conv => lhs; arg 7; unfold c20 Tryd.f20; simp only [Option.getD_some]
  have hc := spec59 t hok m hm hm2
  obtain ⟨s, nl, sz, ks⟩ := t
  rw [rowT_mk] at hc ⊢
  have e : decide (min ((Tr.mk s nl sz ks).size : Int) (m + 1) ≤ m) = decide (((Tr.mk s nl sz ks).size : Int) ≤ m) := by
    congr 1; apply propext; omega
  simp only [go_sem, hc, e]

end Go.AM.S03

namespace Go.AM.S03
open Go Go.Proofs Go.AM
set_option maxRecDepth 100000



def okR (r : Int) : Bool := decide (0 ≤ r) && decide (r ≤ 3)
def VA (al : Al) : Bool := decide (al.ranks.xs.length ≤ 12) && al.ranks.xs.all okR
mutual
def shp (rs : List Int) : Tr → Bool
  | .mk s _ _ ks => decide (0 ≤ s) && decide (s < rs.length) && (rs[s.toNat]?).any (fun r => (ks.length : Int) == r) && shps rs ks
def shps (rs : List Int) : List Tr → Bool
  | [] => true
  | k :: r => shp rs k && shps rs r
end
theorem shp_mk (rs : List Int) (s : Int) (nl : Bool) (sz : Nat) (ks : List Tr) : shp rs (.mk s nl sz ks) = (decide (0 ≤ s) && decide (s < rs.length) && (rs[s.toNat]?).any (fun r => (ks.length : Int) == r) && shps rs ks) := by rw [shp]

theorem loop57_0 (K : Ex × S → Option (Out × List AObj)) (nl : Bool) (sz : Nat) (xs : List Int) (hsz : xs ≠ [] → sz = 1) (hlen : xs.length < 9223372036854775808) (ob : AObj)
    (hN : K (.normal, ⟨[], [ob], [], none, false⟩) = some (.ret (.p (bv true)), [])) (hR : ∀ e σ, get e 2 = .p (bv false) → K (.ret, ⟨e, σ, [], none, false⟩) = some (.ret (.p (bv false)), [])) :
    ∀ (d i : Nat)  (e : Env), xs.length - i = d → i ≤ xs.length → maskEnv e [10,11,12] = [(10, .p (.sl nl sz (xs.map rowI))), (11, .p (iv xs.length)), (12, .p (iv i))] →
    run Tryd.prog T H 57 0 0 (.loop L57_0) ⟨e, [ob], [], none, false⟩ (blockK 0 (some []) K) = some (.ret (.p (bv ((xs.drop i).all okR))), []) := by
  intro d
  induction d with
  | zero =>
    intro i  e hd hi  he
    have h0 : ¬ ((i : Int) < xs.length) := by omega
    try rw [List.drop_of_length_le (by omega : xs.length ≤ i)]
    rw [run_loop_mask (live := [10,11,12]) (h := by simp only [go_sem])]; dsimp only; rw [he]
    conv => lhs; arg 7; unfold L57_0 loopAt c57 Tryd.f57; simp only [loopIn, Option.getD_some, if_true]
    simp only [go_sem, h0, hN, List.all_nil]
  | succ d ihd =>
    intro i  e hd hi  he
    have h0 : ((i : Int) < xs.length) := by omega
    have h1 : (0 : Int) ≤ i := by omega
    obtain ⟨x, hx⟩ : ∃ x, xs[i]? = some x := ⟨xs[i]'(by omega), List.getElem?_eq_getElem (by omega)⟩
    have hmem : x ∈ xs := List.mem_of_getElem? hx
    have h2 : (xs.map rowI)[i]? = some ([iv x]) := by rw [map_get, hx]; rfl
    have hs : sz = 1 := hsz (by intro e; rw [e] at hx; simp at hx)
    subst hs
    have w1 : IntKind.i64.wrap (i + 1) = ((i + 1 : Nat) : Int) := by rw [wrapN] <;> omega
    try rw [drop_get hx]
    rw [run_loop_mask (live := [10,11,12]) (h := by simp only [go_sem])]; dsimp only; rw [he]
    conv => lhs; arg 7; unfold L57_0 loopAt c57 Tryd.f57; simp only [loopIn, Option.getD_some, if_true]
    by_cases hb : x < 0
    · have e1 : okR x = false := by unfold okR; simp; omega
      simp only [go_sem, h0, h1, h2, hb, List.all_cons, e1]
      rw [hR _ _ rfl]
    · by_cases hb2 : x > 3
      · have e1 : okR x = false := by unfold okR; simp; omega
        have hb3 : 3 < x := hb2
        simp only [go_sem, h0, h1, h2, hb, hb3, List.all_cons, e1]
        rw [hR _ _ rfl]
      · have e1 : okR x = true := by unfold okR; simp; omega
        have hb3 : ¬ 3 < x := hb2
        simp only [go_sem, h0, h1, h2, hb, hb3, w1, List.all_cons, e1]
        exact ihd (i + 1) _ (by omega) (by omega) rfl

theorem spec57 (al : Al) (hok : al.ok) :
    call Tryd.prog T H (.fn 57) [.p (.agg (rowAl al))] [] = some (.ret (.p (bv (VA al))), []) := by
  rw [call57]
  conv => lhs; arg 7; unfold c57 Tryd.f57; simp only [Option.getD_some]
  obtain ⟨⟨nl, sz, xs⟩⟩ := al
  obtain ⟨hsz, hlen, _⟩ := hok
  simp only [Sl.ok] at hsz hlen
  by_cases hb : 12 < (xs.length : Int)
  · have e1 : VA ⟨⟨nl, sz, xs⟩⟩ = false := by unfold VA; simp; intro h; omega
    simp only [go_sem, rowAl, slP, List.length_map, hb, e1]
  · have e1 : VA ⟨⟨nl, sz, xs⟩⟩ = xs.all okR := by unfold VA; rw [decide_eq_true (by simpa using by omega : xs.length ≤ 12), Bool.true_and]
    rw [e1]
    simp only [go_sem, rowAl, slP, List.length_map, hb]
    exact (loop57_0 _ nl sz xs hsz hlen _ (by simp only [go_sem]) (fun e σ he => by simp only [go_sem, he]) xs.length 0 _ (by omega) (by omega) rfl).trans (by simp)

theorem spec90 (x : Int) : call Tryd.prog T H (.fn 90) [.p (iv x)] [] = some (.ret (.p (bv (!okR x))), []) := by
  rw [call90]
  conv => lhs; arg 7; unfold c90 Tryd.f90; simp only [Option.getD_some]
  by_cases hb : x < 0
  · have e1 : okR x = false := by unfold okR; simp; omega
    simp only [go_sem, hb, e1]
  · by_cases hb2 : 3 < x
    · have e1 : okR x = false := by unfold okR; simp; omega
      simp only [go_sem, hb, hb2, e1]
    · have e1 : okR x = true := by unfold okR; simp; omega
      simp only [go_sem, hb, hb2, e1]

def idx (p : Int → Bool) : List Int → Nat → Int
  | [], _ => -1
  | x :: r, i => if p x = true then i else idx p r (i + 1)

theorem loop81_0 (K : Ex × S → Option (Out × List AObj)) (nl : Bool) (sz : Nat) (xs : List Int) (hsz : xs ≠ [] → sz = 1) (hlen : xs.length < 9223372036854775808) (g : FuncId) (hg : (H g).pu = true) (p : Int → Bool) (hp : ∀ x, call Tryd.prog T H (.fn g) [.p (iv x)] [] = some (.ret (.p (bv (p x))), [])) (σ : List AObj) (b : Nat)
    (hN : K (.normal, ⟨[], σ, [], none, false⟩) = some (.ret (.p (iv (-1))), σ)) (hR : ∀ e (i : Nat), get e 4 = .p (iv i) → K (.ret, ⟨e, σ, [], none, false⟩) = some (.ret (.p (iv i)), σ)) :
    ∀ (d i : Nat)  (e : Env), xs.length - i = d → i ≤ xs.length → maskEnv e [0,1,7,8] = [(0, .p (.sl nl sz (xs.map rowI))), (1, .p (.fn g)), (7, .p (iv xs.length)), (8, .p (iv i))] →
    run Tryd.prog T H 81 b 0 (.loop L81_0) ⟨e, σ, [], none, false⟩ (blockK 0 (some []) K) = some (.ret (.p (iv (idx p (xs.drop i) i))), σ) := by
  intro d
  induction d with
  | zero =>
    intro i  e hd hi  he
    have h0 : ¬ ((i : Int) < xs.length) := by omega
    try rw [List.drop_of_length_le (by omega : xs.length ≤ i)]
    rw [run_loop_mask (live := [0,1,7,8]) (h := by simp only [go_sem])]; dsimp only; rw [he]
    conv => lhs; arg 7; unfold L81_0 loopAt c81 Tryd.f81; simp only [loopIn, Option.getD_some, if_true]
    simp only [go_sem, h0, hN, idx]
  | succ d ihd =>
    intro i  e hd hi  he
    have h0 : ((i : Int) < xs.length) := by omega
    have h1 : (0 : Int) ≤ i := by omega
    obtain ⟨x, hx⟩ : ∃ x, xs[i]? = some x := ⟨xs[i]'(by omega), List.getElem?_eq_getElem (by omega)⟩
    have hmem : x ∈ xs := List.mem_of_getElem? hx
    have h2 : (xs.map rowI)[i]? = some ([iv x]) := by rw [map_get, hx]; rfl
    have hs : sz = 1 := hsz (by intro e; rw [e] at hx; simp at hx)
    subst hs
    have w1 : IntKind.i64.wrap (i + 1) = ((i + 1 : Nat) : Int) := by rw [wrapN] <;> omega
    try rw [drop_get hx]
    rw [run_loop_mask (live := [0,1,7,8]) (h := by simp only [go_sem])]; dsimp only; rw [he]
    conv => lhs; arg 7; unfold L81_0 loopAt c81 Tryd.f81; simp only [loopIn, Option.getD_some, if_true]
    have hc := hp x
    cases hb : p x with
    | true =>
      rw [hb] at hc
      simp only [go_sem, h0, h1, h2, hg, hc, idx, hb]
      rw [hR _ i rfl]
    | false =>
      rw [hb] at hc
      simp only [go_sem, h0, h1, h2, hg, hc, idx, hb, w1, sTX]
      exact ihd (i + 1) _ (by omega) (by omega) rfl

theorem spec81 (nl : Bool) (sz : Nat) (xs : List Int) (hsz : xs ≠ [] → sz = 1) (hlen : xs.length < 9223372036854775808) (g : FuncId) (hg : (H g).pu = true) (p : Int → Bool) (hp : ∀ x, call Tryd.prog T H (.fn g) [.p (iv x)] [] = some (.ret (.p (bv (p x))), [])) (σ : List AObj) :
    call Tryd.prog T H (.fn 81) [.p (.sl nl sz (xs.map rowI)), .p (.fn g)] σ = some (.ret (.p (iv (idx p xs 0))), σ) := by
  rw [call81]
  conv => lhs; arg 7; unfold c81 Tryd.f81; simp only [Option.getD_some]
  simp only [go_sem, List.length_map]
  exact (loop81_0 _ nl sz xs hsz hlen g hg p hp σ _ (by simp only [go_sem, sTX]) (fun e i he => by simp only [go_sem, he, sTX]) xs.length 0 _ (by omega) (by omega) rfl).trans (by simp)

theorem idx_any (p : Int → Bool) : ∀ (xs : List Int) (i : Nat), decide (0 ≤ idx p xs i) = xs.any p
  | [], i => by simp [idx]
  | x :: r, i => by
    unfold idx
    cases h : p x with
    | true => simp [h]
    | false => simp [h, idx_any p r (i + 1)]

theorem spec55 (nl : Bool) (sz : Nat) (xs : List Int) (hsz : xs ≠ [] → sz = 1) (hlen : xs.length < 9223372036854775808) (g : FuncId) (hg : (H g).pu = true) (p : Int → Bool) (hp : ∀ x, call Tryd.prog T H (.fn g) [.p (iv x)] [] = some (.ret (.p (bv (p x))), [])) (σ : List AObj) :
    call Tryd.prog T H (.fn 55) [.p (.sl nl sz (xs.map rowI)), .p (.fn g)] σ = some (.ret (.p (bv (xs.any p))), σ) := by
  rw [call55]
  conv => lhs; arg 7; unfold c55 Tryd.f55; simp only [Option.getD_some]
  have hc := spec81 nl sz xs hsz hlen g hg p hp σ
  simp only [go_sem, hc, sTX, idx_any]

theorem spec74 (al : Al) (hok : al.ok) :
    call Tryd.prog T H (.fn 74) [.p (.agg (rowAl al))] [] = some (.ret (.p (bv (VA al))), []) := by
  rw [call74]
  conv => lhs; arg 7; unfold c74 Tryd.f74; simp only [Option.getD_some]
  obtain ⟨⟨nl, sz, xs⟩⟩ := al
  obtain ⟨hsz, hlen, _⟩ := hok
  simp only [Sl.ok] at hsz hlen
  have hc := spec55 nl sz xs hsz hlen 90 rfl (fun x => !okR x) spec90 [.cells [.p (.sl nl sz (xs.map rowI))]]
  by_cases hb : (xs.length : Int) ≤ 12
  · have e1 : VA ⟨⟨nl, sz, xs⟩⟩ = !(xs.any fun x => !okR x) := by
      unfold VA; rw [decide_eq_true (by simpa using by omega : xs.length ≤ 12), Bool.true_and]; simp [List.any_eq_not_all_not]
    rw [e1]
    simp only [go_sem, rowAl, slP, List.length_map, hb, hc]
  · have e1 : VA ⟨⟨nl, sz, xs⟩⟩ = false := by unfold VA; simp; intro h; omega
    simp only [go_sem, rowAl, slP, List.length_map, hb, e1]

theorem loop58_0 (K : Ex × S → Option (Out × List AObj)) (nl : Bool) (sz : Nat) (xs : List Tr) (hsz : xs ≠ [] → sz = 2) (hlen : xs.length < 9223372036854775808) (al : Al) (ob : AObj)
    (ih : ∀ x, x ∈ xs → call Tryd.prog T H (.fn 58) [.p (.agg (rowAl al)), .p (.agg (rowT x))] [] = some (.ret (.p (bv (shp al.ranks.xs x))), []))
    (hN : K (.normal, ⟨[], [.cells ((rowAl al).map .p), ob], [], none, false⟩) = some (.ret (.p (bv true)), [])) (hR : ∀ e σ, get e 4 = .p (bv false) → K (.ret, ⟨e, σ, [], none, false⟩) = some (.ret (.p (bv false)), [])) :
    ∀ (d i : Nat)  (e : Env), xs.length - i = d → i ≤ xs.length → maskEnv e [2,31,32,33] = [(2, .ptr 0 0), (31, .p (.sl nl sz (xs.map rowT))), (32, .p (iv xs.length)), (33, .p (iv i))] →
    run Tryd.prog T H 58 0 0 (.loop L58_0) ⟨e, [.cells ((rowAl al).map .p), ob], [], none, false⟩ (blockK 0 (some []) K) = some (.ret (.p (bv (shps al.ranks.xs (xs.drop i)))), []) := by
  intro d
  induction d with
  | zero =>
    intro i  e hd hi  he
    have h0 : ¬ ((i : Int) < xs.length) := by omega
    try rw [List.drop_of_length_le (by omega : xs.length ≤ i)]
    rw [run_loop_mask (live := [2,31,32,33]) (h := by simp only [go_sem])]; dsimp only; rw [he]
    conv => lhs; arg 7; unfold L58_0 loopAt c58 Tryd.f58; simp only [loopIn, Option.getD_some, if_true]
    simp only [go_sem, h0, hN, shps]
  | succ d ihd =>
    intro i  e hd hi  he
    have h0 : ((i : Int) < xs.length) := by omega
    have h1 : (0 : Int) ≤ i := by omega
    obtain ⟨x, hx⟩ : ∃ x, xs[i]? = some x := ⟨xs[i]'(by omega), List.getElem?_eq_getElem (by omega)⟩
    have hmem : x ∈ xs := List.mem_of_getElem? hx
    have h2 : (xs.map rowT)[i]? = some (rowT x) := by rw [map_get, hx]; rfl
    have hs : sz = 2 := hsz (by intro e; rw [e] at hx; simp at hx)
    subst hs
    have w1 : IntKind.i64.wrap (i + 1) = ((i + 1 : Nat) : Int) := by rw [wrapN] <;> omega
    try rw [drop_get hx]
    rw [run_loop_mask (live := [2,31,32,33]) (h := by simp only [go_sem])]; dsimp only; rw [he]
    conv => lhs; arg 7; unfold L58_0 loopAt c58 Tryd.f58; simp only [loopIn, Option.getD_some, if_true]
    have hc := ih x hmem
    obtain ⟨s, nl', sz', ks⟩ := x
    rw [rowT_mk] at h2 hc
    rw [shps]
    unfold rowAl at hc ⊢
    cases hb : shp al.ranks.xs (.mk s nl' sz' ks) with
    | false =>
      rw [hb] at hc
      simp only [go_sem, h0, h1, h2, hc]
      rw [hR _ _ rfl]
    | true =>
      rw [hb] at hc
      simp only [go_sem, h0, h1, h2, hc, w1]
      exact ihd (i + 1) _ (by omega) (by omega) rfl

theorem spec58 (al : Al) (hal : al.ok) : ∀ (t : Tr), t.ok → call Tryd.prog T H (.fn 58) [.p (.agg (rowAl al)), .p (.agg (rowT t))] [] = some (.ret (.p (bv (shp al.ranks.xs t))), []) := by
  refine Tr.ind fun s nl sz ks ih hok => ?_
  rw [Tr.ok_mk] at hok
  obtain ⟨h64, hsz, hlen, hks⟩ := hok
  rw [call58]
  conv => lhs; arg 7; unfold c58 Tryd.f58; simp only [Option.getD_some]
  have hih := fun x hx => ih x hx (hks x hx)
  obtain ⟨⟨nl2, sz2, rs⟩⟩ := al
  obtain ⟨hsz2, hlen2, _⟩ := hal
  simp only [Sl.ok] at hsz2 hlen2
  rw [rowT_mk, shp_mk]
  by_cases b1 : s < 0
  · have e1 : decide (0 ≤ s) = false := by simp; omega
    simp only [go_sem, rowAl, slP, List.length_map, b1, e1]
  · have e1 : decide (0 ≤ s) = true := by simp; omega
    by_cases b2 : (rs.length : Int) ≤ s
    · have e2 : decide (s < rs.length) = false := by simp; omega
      simp only [go_sem, rowAl, slP, List.length_map, b1, b2, e1, e2]
    · have e2 : decide (s < rs.length) = true := by simp; omega
      have h1 : 0 ≤ s := by omega
      obtain ⟨r, hr⟩ : ∃ r, rs[s.toNat]? = some r := ⟨rs[s.toNat]'(by omega), List.getElem?_eq_getElem (by omega)⟩
      have h2 : (rs.map rowI)[s.toNat]? = some [iv r] := by rw [map_get, hr]; rfl
      have hs2 : sz2 = 1 := hsz2 (by intro e; rw [e] at hr; simp at hr)
      subst hs2
      by_cases b3 : (ks.length : Int) = r
      · have e3 : ((ks.length : Int) != r) = false := by simpa using b3
        have e4 : (rs[s.toNat]?).any (fun r => (ks.length : Int) == r) = true := by rw [hr]; simpa using b3
        simp only [go_sem, rowAl, slP, List.length_map, b1, b2, e1, e2, e3, e4, h1, h2]
        exact (loop58_0 _ nl sz ks hsz hlen ⟨⟨nl2, 1, rs⟩⟩ _ (fun x hx => hih x hx) (by simp only [go_sem]) (fun e σ he => by simp only [go_sem, he]) ks.length 0 _ (by omega) (by omega) rfl).trans (by simp)
      · have e3 : ((ks.length : Int) != r) = true := by simpa using b3
        have e4 : (rs[s.toNat]?).any (fun r => (ks.length : Int) == r) = false := by rw [hr]; simpa using b3
        simp only [go_sem, rowAl, slP, List.length_map, b1, b2, e1, e2, e3, e4, h1, h2]

end Go.AM.S03

namespace Go.AM.S03
open Go Go.Proofs Go.AM
set_option maxRecDepth 100000



def VT (al : Al) (t : Tr) : Bool := VA al && decide (t.size ≤ 300) && shp al.ranks.xs t
theorem set_same {σ : List AObj} {id : Nat} {x : AObj} (h : σ[id]? = some x) : σ.set id x = σ := by
  apply List.ext_getElem?
  intro j
  by_cases e : id = j
  · subst e
    rw [List.getElem?_set_self (List.getElem?_eq_some_iff.1 h).1, h]
  · rw [List.getElem?_set_ne e]

theorem spec16 (al : Al) (hal : al.ok) (t : Tr) (ht : t.ok) :
    call Tryd.prog T H (.fn 16) [.p (.agg (rowAl al)), .p (.agg (rowT t))] [] = some (.ret (.p (bv (VT al t))), []) := by
  rw [call16]
  conv => lhs; arg 7; unfold c16 Tryd.f16; simp only [Option.getD_some]
  have hc1 := spec57 al hal
  have hc2 := spec20 t ht 300 (by omega) (by omega)
  have hc3 := spec58 al hal t ht
  obtain ⟨⟨nl, sz, xs⟩⟩ := al
  obtain ⟨s, nl', sz', ks⟩ := t
  rw [rowT_mk] at hc2 hc3 ⊢
  unfold rowAl at hc1 hc3 ⊢
  unfold VT
  have e2 : decide ((Tr.mk s nl' sz' ks).size ≤ 300) = decide (((Tr.mk s nl' sz' ks).size : Int) ≤ 300) := by congr 1; apply propext; omega
  rw [e2]
  cases hb : VA ⟨⟨nl, sz, xs⟩⟩ with
  | false =>
    rw [hb] at hc1
    simp only [go_sem, hc1]
  | true =>
    rw [hb] at hc1
    cases hb2 : decide (((Tr.mk s nl' sz' ks).size : Int) ≤ 300) with
    | false =>
      rw [hb2] at hc2
      simp only [go_sem, hc1, hc2]
    | true =>
      rw [hb2] at hc2
      simp only [go_sem, hc1, hc2, hc3]


def hdOk (rs : List Int) (s : Int) (n : Nat) : Bool := decide (0 ≤ s) && decide (s < rs.length) && (rs[s.toNat]?).any (fun r => (n : Int) == r)
mutual
def fm (rs : List Int) : Tr → Int → Bool × Int
  | .mk s _ _ ks, l => if l - 1 < 0 then (false, l - 1) else if hdOk rs s ks.length = true then fms rs ks (l - 1) else (false, l - 1)
def fms (rs : List Int) : List Tr → Int → Bool × Int
  | [], l => (true, l)
  | k :: r, l => match fm rs k l with
    | (true, l') => fms rs r l'
    | (false, l') => (false, l')
end
theorem fm_mk (rs : List Int) (s : Int) (nl : Bool) (sz : Nat) (ks : List Tr) (l : Int) : fm rs (.mk s nl sz ks) l = if l - 1 < 0 then (false, l - 1) else if hdOk rs s ks.length = true then fms rs ks (l - 1) else (false, l - 1) := by rw [fm]
theorem fms_spec {rs : List Int} : ∀ (ks : List Tr), (∀ k, k ∈ ks → ∀ l : Int, 0 ≤ l → -1 ≤ (fm rs k l).2 ∧ (fm rs k l).2 ≤ l ∧ (fm rs k l).1 = (shp rs k && decide ((k.size : Int) ≤ l)) ∧ ((fm rs k l).1 = true → (fm rs k l).2 = l - k.size)) →
    ∀ l : Int, 0 ≤ l → -1 ≤ (fms rs ks l).2 ∧ (fms rs ks l).2 ≤ l ∧ (fms rs ks l).1 = (shps rs ks && decide ((sizesT ks : Int) ≤ l)) ∧ ((fms rs ks l).1 = true → (fms rs ks l).2 = l - sizesT ks)
  | [], _, l, hl => by
    rw [fms, shps, sizesT]
    exact ⟨by dsimp only; omega, by dsimp only; omega, by simpa using hl, fun _ => by simp⟩
  | k :: r, h, l, hl => by
    have h1 := h k (by simp) l hl
    rw [fms, shps, sizesT]
    cases hf : fm rs k l with
    | mk b l' =>
      rw [hf] at h1
      obtain ⟨a1, a2, a3, a4⟩ := h1
      cases b with
      | false =>
        dsimp only
        refine ⟨a1, a2, ?_, fun h => by cases h⟩
        simp only at a3
        cases hs : shp rs k with
        | false => simp
        | true =>
          rw [hs] at a3
          have : ¬ ((k.size : Int) ≤ l) := by simpa using a3
          simp
          intro _; omega
      | true =>
        dsimp only
        simp only at a3
        have a3 := a3.symm
        simp only [Bool.and_eq_true, decide_eq_true_eq] at a3
        have a4 := a4 rfl
        simp only at a4
        obtain ⟨b1, b2, b3, b4⟩ := fms_spec r (fun k' hk => h k' (List.mem_cons_of_mem k hk)) l' (by omega)
        refine ⟨b1, by omega, ?_, fun hb => ?_⟩
        · rw [b3, a3.1, Bool.true_and]
          congr 1
          simp; omega
        · rw [b4 hb, a4]; simp; omega
theorem fm_spec {rs : List Int} : ∀ (t : Tr) (l : Int), 0 ≤ l → -1 ≤ (fm rs t l).2 ∧ (fm rs t l).2 ≤ l ∧ (fm rs t l).1 = (shp rs t && decide ((t.size : Int) ≤ l)) ∧ ((fm rs t l).1 = true → (fm rs t l).2 = l - t.size) := by
  refine Tr.ind fun s nl sz ks ih l hl => ?_
  have hs : shp rs (.mk s nl sz ks) = (hdOk rs s ks.length && shps rs ks) := shp_mk ..
  rw [fm_mk, hs, Tr.size_mk]
  by_cases h0 : l - 1 < 0
  · rw [if_pos h0]
    refine ⟨by dsimp only; omega, by dsimp only; omega, ?_, fun h => by cases h⟩
    have : ¬ (((1 + sizesT ks : Nat) : Int) ≤ l) := by omega
    rw [decide_eq_false this, Bool.and_false]
  · rw [if_neg h0]
    cases hh : hdOk rs s ks.length with
    | false => simp; omega
    | true =>
      rw [if_pos rfl]
      obtain ⟨b1, b2, b3, b4⟩ := fms_spec ks (fun k hk l hl => ih k hk l hl) (l - 1) (by omega)
      refine ⟨b1, by omega, ?_, fun hb => ?_⟩
      · rw [b3, Bool.true_and]; congr 1; simp; omega
      · rw [b4 hb]; simp; omega

theorem loop82_0 (K : Ex × S → Option (Out × List AObj)) (nl : Bool) (sz : Nat) (xs : List Tr) (hsz : xs ≠ [] → sz = 2) (hlen : xs.length < 9223372036854775808) (al : Al) (ob : AObj) (id N b : Nat)
    (ih : ∀ x, x ∈ xs → ∀ (σ : List AObj) (id : Nat) (l : Int), id < σ.length → σ[id]? = some (.cells [.p (iv l)]) → 0 ≤ l → l < 4611686018427387904 → call Tryd.prog T H (.fn 82) [.p (.agg (rowAl al)), .p (.agg (rowT x)), .ptr id 0] σ = some (.ret (.p (bv (fm al.ranks.xs x l).1)), σ.set id (.cells [.p (iv (fm al.ranks.xs x l).2)])))
    (hN : ∀ σ' : List AObj, σ'.length = N → K (.normal, ⟨[], σ' ++ [.cells ((rowAl al).map .p), ob], [], none, false⟩) = some (.ret (.p (bv true)), σ')) (hR : ∀ e (σ' l : List AObj), get e 6 = .p (bv false) → σ'.length = N → K (.ret, ⟨e, σ' ++ l, [], none, false⟩) = some (.ret (.p (bv false)), σ')) :
    ∀ (d i : Nat) (σ : List AObj) (l : Int) (e : Env), xs.length - i = d → i ≤ xs.length → id < σ.length → σ[id]? = some (.cells [.p (iv l)]) → 0 ≤ l → l < 4611686018427387904 → σ.length = N → maskEnv e [2,3,44,45,46] = [(2, .ptr id 0), (3, .ptr σ.length 0), (44, .p (.sl nl sz (xs.map rowT))), (45, .p (iv xs.length)), (46, .p (iv i))] →
    run Tryd.prog T H 82 b 0 (.loop L82_0) ⟨e, σ ++ [.cells ((rowAl al).map .p), ob], [], none, false⟩ (blockK 0 (some []) K) = some (.ret (.p (bv (fms al.ranks.xs (xs.drop i) l).1)), σ.set id (.cells [.p (iv (fms al.ranks.xs (xs.drop i) l).2)])) := by
  intro d
  induction d with
  | zero =>
    intro i σ l e hd hi c1 c2 c3 c4 c5 he
    have h0 : ¬ ((i : Int) < xs.length) := by omega
    try rw [List.drop_of_length_le (by omega : xs.length ≤ i)]
    rw [run_loop_mask (live := [2,3,44,45,46]) (h := by simp only [go_sem])]; dsimp only; rw [he]
    conv => lhs; arg 7; unfold L82_0 loopAt c82 Tryd.f82; simp only [loopIn, Option.getD_some, if_true]
    rw [fms]
    simp only [go_sem, h0]
    rw [hN σ c5, set_same c2]
  | succ d ihd =>
    intro i σ l e hd hi c1 c2 c3 c4 c5 he
    have h0 : ((i : Int) < xs.length) := by omega
    have h1 : (0 : Int) ≤ i := by omega
    obtain ⟨x, hx⟩ : ∃ x, xs[i]? = some x := ⟨xs[i]'(by omega), List.getElem?_eq_getElem (by omega)⟩
    have hmem : x ∈ xs := List.mem_of_getElem? hx
    have h2 : (xs.map rowT)[i]? = some (rowT x) := by rw [map_get, hx]; rfl
    have hs : sz = 2 := hsz (by intro e; rw [e] at hx; simp at hx)
    subst hs
    have w1 : IntKind.i64.wrap (i + 1) = ((i + 1 : Nat) : Int) := by rw [wrapN] <;> omega
    try rw [drop_get hx]
    rw [run_loop_mask (live := [2,3,44,45,46]) (h := by simp only [go_sem])]; dsimp only; rw [he]
    conv => lhs; arg 7; unfold L82_0 loopAt c82 Tryd.f82; simp only [loopIn, Option.getD_some, if_true]
    unfold rowAl at ih ⊢
    have hc := ih x hmem (σ ++ [.cells [.p (slP rowI al.ranks)], ob, .cells ((rowT x).map .p)]) id l (by simp; omega) (by rw [sAL c1]; exact c2) c3 c4
    have hfs := fm_spec (rs := al.ranks.xs) x l c3
    obtain ⟨s, nl', sz', ks⟩ := x
    rw [rowT_mk] at h2 hc
    rw [fms]
    have q1 : id < σ.length + 2 := by omega
    cases hb : fm al.ranks.xs (.mk s nl' sz' ks) l with
    | mk r l' =>
      rw [hb] at hc hfs
      simp only [List.map_cons, List.map_nil] at hc
      cases r with
      | false =>
        simp only [go_sem, h0, h1, h2, hc, List.append_assoc, sAK, sA0, sAL, c1, c2, sSL, sS0, sSK, List.length_append, List.length_set, sTK, sT0]
        rw [hR _ _ _ (by rfl) (by simpa using c5)]
      | true =>
        have hl' : 0 ≤ l' := by have := hfs.2.2.1; have h4 := hfs.2.2.2 rfl; simp at this h4; omega
        have hl2 : l' < 4611686018427387904 := by have := hfs.2.1; simp at this; omega
        simp only [go_sem, h0, h1, h2, hc, w1, List.append_assoc, sAK, sA0, sAL, c1, c2, sSL, sS0, sSK, List.length_append, List.length_set, sTK, sT0, q1, ltK]
        refine (ihd (i + 1) (σ.set id (.cells [.p (iv l')])) l' _ (by omega) (by omega) (by simpa using c1) (by rw [List.getElem?_set_self c1]) hl' hl2 (by simpa using c5) (by rw [List.length_set]; rfl)).trans ?_
        rw [List.set_set]

theorem spec82 (al : Al) (hal : al.ok) : ∀ (t : Tr), t.ok → ∀ (σ : List AObj) (id : Nat) (l : Int), id < σ.length → σ[id]? = some (.cells [.p (iv l)]) → 0 ≤ l → l < 4611686018427387904 → call Tryd.prog T H (.fn 82) [.p (.agg (rowAl al)), .p (.agg (rowT t)), .ptr id 0] σ = some (.ret (.p (bv (fm al.ranks.xs t l).1)), σ.set id (.cells [.p (iv (fm al.ranks.xs t l).2)])) := by
  refine Tr.ind fun s nl sz ks ih hok σ id l hid hσ hl hl2 => ?_
  rw [Tr.ok_mk] at hok
  obtain ⟨h64, hsz, hlen, hks⟩ := hok
  rw [call82]
  conv => lhs; arg 7; unfold c82 Tryd.f82; simp only [Option.getD_some]
  have hih := fun x hx => ih x hx (hks x hx)
  obtain ⟨⟨nl2, sz2, rs⟩⟩ := al
  obtain ⟨hsz2, hlen2, _⟩ := hal
  simp only [Sl.ok] at hsz2 hlen2
  rw [rowT_mk, fm_mk]
  have w0 : IntKind.i64.wrap (l - 1) = l - 1 := by rw [wrapN] <;> omega
  have g1 : (σ.set id (.cells [.p (iv (l - 1))]))[id]? = some (.cells [.p (iv (l - 1))]) := by rw [List.getElem?_set_self hid]
  by_cases b0 : l - 1 < 0
  · simp only [go_sem, rowAl, slP, List.length_map, List.append_assoc, sAK, sA0, sAL, hid, hσ, sSL, sS0, sSK, List.length_append, List.length_set, w0, g1, b0, sTK, sT0]
  · by_cases b1 : s < 0
    · have e1 : hdOk rs s ks.length = false := by unfold hdOk; rw [decide_eq_false (by omega : ¬ 0 ≤ s)]; rfl
      simp only [go_sem, rowAl, slP, List.length_map, List.append_assoc, sAK, sA0, sAL, hid, hσ, sSL, sS0, sSK, List.length_append, List.length_set, w0, g1, b0, b1, e1, sTK, sT0]
    · by_cases b2 : (rs.length : Int) ≤ s
      · have e1 : hdOk rs s ks.length = false := by unfold hdOk; rw [decide_eq_false (by omega : ¬ s < rs.length)]; simp
        simp only [go_sem, rowAl, slP, List.length_map, List.append_assoc, sAK, sA0, sAL, hid, hσ, sSL, sS0, sSK, List.length_append, List.length_set, w0, g1, b0, b1, b2, e1, sTK, sT0]
      · have h1 : 0 ≤ s := by omega
        obtain ⟨r, hr⟩ : ∃ r, rs[s.toNat]? = some r := ⟨rs[s.toNat]'(by omega), List.getElem?_eq_getElem (by omega)⟩
        have h2 : (rs.map rowI)[s.toNat]? = some [iv r] := by rw [map_get, hr]; rfl
        have hs2 : sz2 = 1 := hsz2 (by intro e; rw [e] at hr; simp at hr)
        subst hs2
        have e5 : hdOk rs s ks.length = ((ks.length : Int) == r) := by unfold hdOk; rw [decide_eq_true h1, decide_eq_true (by omega : s < rs.length), hr]; simp
        by_cases b3 : (ks.length : Int) = r
        · have e3 : ((ks.length : Int) != r) = false := by simpa using b3
          have e4 : hdOk rs s ks.length = true := by rw [e5]; simpa using b3
          simp only [go_sem, rowAl, slP, List.length_map, List.append_assoc, sAK, sA0, sAL, hid, hσ, sSL, sS0, sSK, List.length_append, List.length_set, w0, g1, b0, b1, b2, e3, e4, h1, h2, sTK, sT0]
          refine (loop82_0 _ nl sz ks hsz hlen ⟨⟨nl2, 1, rs⟩⟩ _ id σ.length _ (fun x hx => hih x hx) (fun σ' h' => ?_) (fun e σ' l h h' => ?_) ks.length 0 (σ.set id (.cells [.p (iv (l - 1))])) (l - 1) _ (by omega) (by omega) (by simpa using hid) g1 (by omega) (by omega) (by simp) (by rw [List.length_set]; rfl)).trans ?_
          · simp only [go_sem, sT0, h']
          · simp only [go_sem, sT0, h, h']
          · rw [List.set_set, List.drop_zero]
        · have e3 : ((ks.length : Int) != r) = true := by simpa using b3
          have e4 : hdOk rs s ks.length = false := by rw [e5]; simpa using b3
          simp only [go_sem, rowAl, slP, List.length_map, List.append_assoc, sAK, sA0, sAL, hid, hσ, sSL, sS0, sSK, List.length_append, List.length_set, w0, g1, b0, b1, b2, e3, e4, h1, h2, sTK, sT0]

theorem spec60 (al : Al) (hal : al.ok) (t : Tr) (ht : t.ok) :
    call Tryd.prog T H (.fn 60) [.p (.agg (rowAl al)), .p (.agg (rowT t))] [] = some (.ret (.p (bv (VT al t))), []) := by
  rw [call60]
  conv => lhs; arg 7; unfold c60 Tryd.f60; simp only [Option.getD_some]
  have hc1 := spec74 al hal
  have hc2 := spec82 al hal t ht [.cells ((rowAl al).map .p), .cells ((rowT t).map .p), .cells [.p (iv 300)]] 2 300 (by simp) rfl (by omega) (by omega)
  have hfs := (fm_spec (rs := al.ranks.xs) t 300 (by omega)).2.2.1
  obtain ⟨⟨nl, sz, xs⟩⟩ := al
  obtain ⟨s, nl', sz', ks⟩ := t
  rw [rowT_mk] at hc2 ⊢
  unfold rowAl at hc1 hc2 ⊢
  unfold VT
  cases hb : VA ⟨⟨nl, sz, xs⟩⟩ with
  | false =>
    rw [hb] at hc1
    simp only [go_sem, hc1]
  | true =>
    rw [hb] at hc1
    have e2 : (decide ((Tr.mk s nl' sz' ks).size ≤ 300) && shp xs (Tr.mk s nl' sz' ks)) = (fm xs (Tr.mk s nl' sz' ks) 300).1 := by
      rw [hfs, Bool.and_comm]; congr 2; apply propext; omega
    rw [Bool.true_and, e2]
    simp only [go_sem] at hc2
    simp only [go_sem, hc1, hc2]

end Go.AM.S03

namespace Go.AM.S03
open Go Go.Proofs Go.AM
set_option maxRecDepth 100000



def inSt (st x : Int) : Bool := decide (0 ≤ x) && decide (x < st)
def finC (st : Int) : Option Int → List Int → Bool
  | _, [] => true
  | p, x :: r => inSt st x && (match p with | none => true | some q => decide (q < x)) && finC st (some x) r
theorem finC_nil (st : Int) (p : Option Int) : finC st p [] = true := by cases p <;> rfl
theorem finC_cons (st : Int) (p : Option Int) (x : Int) (r : List Int) : finC st p (x :: r) = (inSt st x && (match p with | none => true | some q => decide (q < x)) && finC st (some x) r) := by cases p <;> rfl
def prevOf (xs : List Int) (i : Nat) : Option Int := if i = 0 then none else xs[i - 1]?
def ruleOk (rs : List Int) (st : Int) (r : Rule) : Bool := hdOk rs r.sym r.from_.xs.length && inSt st r.to && r.from_.xs.all (inSt st)
def VAu (al : Al) (a : Au) : Bool := VA al && decide (0 ≤ a.states) && decide (a.states ≤ 300) && decide (a.rules.xs.length ≤ 20000) && finC a.states none a.final.xs && a.rules.xs.all (ruleOk al.ranks.xs a.states)
theorem prev_succ {xs : List Int} {i : Nat} {x : Int} (h : xs[i]? = some x) : prevOf xs (i + 1) = some x := by unfold prevOf; rw [if_neg (by omega)]; exact h

theorem loop22_0 (K : Ex × S → Option (Out × List AObj)) (nl : Bool) (sz : Nat) (xs : List Int) (hsz : xs ≠ [] → sz = 1) (hlen : xs.length < 9223372036854775808) (al : Al) (st : Int) (rl : Sl Rule)
    (hR : ∀ e σ, get e 4 = .p (bv false) → K (.ret, ⟨e, σ, [], none, false⟩) = some (.ret (.p (bv false)), [])) :
    ∀ (d i : Nat)  (e : Env), xs.length - i = d → i ≤ xs.length → maskEnv e [2,3,31,32,33] = [(2, .ptr 0 0), (3, .ptr 1 0), (31, .p (.sl nl sz (xs.map rowI))), (32, .p (iv xs.length)), (33, .p (iv i))] →
    run Tryd.prog T H 22 0 0 (.loop L22_0) ⟨e, [.cells ((rowAl al).map .p), .cells [.p (iv st), .p (.sl nl sz (xs.map rowI)), .p (slP rowR rl)]], [], none, false⟩ (blockK 0 (some [2,3]) K) = if finC st (prevOf xs i) (xs.drop i) = true then K (.normal, ⟨[(2, .ptr 0 0), (3, .ptr 1 0)], [.cells ((rowAl al).map .p), .cells [.p (iv st), .p (.sl nl sz (xs.map rowI)), .p (slP rowR rl)]], [], none, false⟩) else some (.ret (.p (bv false)), []) := by
  intro d
  induction d with
  | zero =>
    intro i  e hd hi  he
    have h0 : ¬ ((i : Int) < xs.length) := by omega
    try rw [List.drop_of_length_le (by omega : xs.length ≤ i)]
    rw [run_loop_mask (live := [2,3,31,32,33]) (h := by simp only [go_sem])]; dsimp only; rw [he]
    conv => lhs; arg 7; unfold L22_0 loopAt c22 Tryd.f22; simp only [loopIn, Option.getD_some, if_true]
    simp only [go_sem, h0, finC_nil]
  | succ d ihd =>
    intro i  e hd hi  he
    have h0 : ((i : Int) < xs.length) := by omega
    have h1 : (0 : Int) ≤ i := by omega
    obtain ⟨x, hx⟩ : ∃ x, xs[i]? = some x := ⟨xs[i]'(by omega), List.getElem?_eq_getElem (by omega)⟩
    have hmem : x ∈ xs := List.mem_of_getElem? hx
    have h2 : (xs.map rowI)[i]? = some ([iv x]) := by rw [map_get, hx]; rfl
    have hs : sz = 1 := hsz (by intro e; rw [e] at hx; simp at hx)
    subst hs
    have w1 : IntKind.i64.wrap (i + 1) = ((i + 1 : Nat) : Int) := by rw [wrapN] <;> omega
    try rw [drop_get hx]
    rw [run_loop_mask (live := [2,3,31,32,33]) (h := by simp only [go_sem])]; dsimp only; rw [he]
    conv => lhs; arg 7; unfold L22_0 loopAt c22 Tryd.f22; simp only [loopIn, Option.getD_some, if_true]
    rw [finC_cons, Bool.and_assoc]
    have q1 : ∀ c : Bool, (inSt st x && c) = (decide (0 ≤ x) && decide (x < st) && c) := fun c => rfl
    rw [q1]
    
    by_cases b1 : x < 0
    · rw [decide_eq_false (by omega : ¬ 0 ≤ x)]
      simp only [go_sem, h0, h1, h2, b1]
      rw [hR _ _ rfl]
    · have b1' : 0 ≤ x := by omega
      rw [decide_eq_true b1']
      by_cases b2 : st ≤ x
      · rw [decide_eq_false (by omega : ¬ x < st)]
        simp only [go_sem, h0, h1, h2, b1, b2]
        rw [hR _ _ rfl]
      · have b2' : x < st := by omega
        rw [decide_eq_true b2']
        by_cases b3 : i = 0
        · subst b3
          have b4 : ¬ ((0 : Int) < ((0 : Nat) : Int)) := by omega
          have e1 : prevOf xs 0 = none := rfl
          simp only [go_sem, h0, h1, h2, b1, b2, b4, e1, w1]
          refine (ihd (0 + 1) _ (by omega) (by omega) rfl).trans ?_
          rw [prev_succ hx]
        · have b4 : ((0 : Int) < (i : Int)) := by omega
          have w2 : IntKind.i64.wrap ((i : Int) - 1) = ((i - 1 : Nat) : Int) := by rw [wrapN] <;> omega
          obtain ⟨y, hy⟩ : ∃ y, xs[i - 1]? = some y := ⟨xs[i - 1]'(by omega), List.getElem?_eq_getElem (by omega)⟩
          have h3 : (xs.map rowI)[i - 1]? = some [iv y] := by rw [map_get, hy]; rfl
          have h4 : (0 : Int) ≤ ((i - 1 : Nat) : Int) := by omega
          have e1 : prevOf xs i = some y := by unfold prevOf; rw [if_neg b3]; exact hy
          by_cases b5 : x ≤ y
          · have b6 : decide (y < x) = false := decide_eq_false (by omega)
            simp only [go_sem, h0, h1, h2, h3, h4, b1, b2, b4, b5, b6, e1, w2]
            rw [hR _ _ rfl]
          · have b6 : decide (y < x) = true := decide_eq_true (by omega)
            simp only [go_sem, h0, h1, h2, h3, h4, b1, b2, b4, b5, b6, e1, w1, w2]
            refine (ihd (i + 1) _ (by omega) (by omega) rfl).trans ?_
            rw [prev_succ hx]

theorem spec75 (x st : Int) (c1 c2 : AV) (σ : List AObj) (id : Nat) (hσ : σ[id]? = some (.cells [.p (iv st), c1, c2])) :
    call Tryd.prog T H (.fn 75) [.p (iv x), .ptr id 0] σ = some (.ret (.p (bv (inSt st x))), σ) := by
  rw [call75]
  conv => lhs; arg 7; unfold c75 Tryd.f75; simp only [Option.getD_some]
  unfold inSt
  by_cases b1 : 0 ≤ x
  · by_cases b2 : x < st
    · simp only [go_sem, b1, b2, hσ, sTX]
    · simp only [go_sem, b1, b2, hσ, sTX]
  · simp only [go_sem, b1, sTX]

theorem loop35_0 (K : Ex × S → Option (Out × List AObj)) (nl : Bool) (sz : Nat) (xs : List Int) (hsz : xs ≠ [] → sz = 1) (hlen : xs.length < 9223372036854775808) (al : Al) (st : Int) (rl : Sl Rule)
    (hR : ∀ e σ, get e 4 = .p (bv false) → K (.ret, ⟨e, σ, [], none, false⟩) = some (.ret (.p (bv false)), [])) :
    ∀ (d i : Nat)  (e : Env), xs.length - i = d → i ≤ xs.length → maskEnv e [2,3,5,33,34,35] = [(2, .ptr 0 0), (3, .ptr 1 0), (5, .fn 75 [.ptr 1 0]), (33, .p (.sl nl sz (xs.map rowI))), (34, .p (iv xs.length)), (35, .p (iv i))] →
    run Tryd.prog T H 35 0 0 (.loop L35_0) ⟨e, [.cells ((rowAl al).map .p), .cells [.p (iv st), .p (.sl nl sz (xs.map rowI)), .p (slP rowR rl)]], [], none, false⟩ (blockK 0 (some [2,3,5]) K) = if finC st (prevOf xs i) (xs.drop i) = true then K (.normal, ⟨[(2, .ptr 0 0), (3, .ptr 1 0), (5, .fn 75 [.ptr 1 0])], [.cells ((rowAl al).map .p), .cells [.p (iv st), .p (.sl nl sz (xs.map rowI)), .p (slP rowR rl)]], [], none, false⟩) else some (.ret (.p (bv false)), []) := by
  intro d
  induction d with
  | zero =>
    intro i  e hd hi  he
    have h0 : ¬ ((i : Int) < xs.length) := by omega
    try rw [List.drop_of_length_le (by omega : xs.length ≤ i)]
    rw [run_loop_mask (live := [2,3,5,33,34,35]) (h := by simp only [go_sem])]; dsimp only; rw [he]
    conv => lhs; arg 7; unfold L35_0 loopAt c35 Tryd.f35; simp only [loopIn, Option.getD_some, if_true]
    simp only [go_sem, h0, finC_nil]
  | succ d ihd =>
    intro i  e hd hi  he
    have h0 : ((i : Int) < xs.length) := by omega
    have h1 : (0 : Int) ≤ i := by omega
    obtain ⟨x, hx⟩ : ∃ x, xs[i]? = some x := ⟨xs[i]'(by omega), List.getElem?_eq_getElem (by omega)⟩
    have hmem : x ∈ xs := List.mem_of_getElem? hx
    have h2 : (xs.map rowI)[i]? = some ([iv x]) := by rw [map_get, hx]; rfl
    have hs : sz = 1 := hsz (by intro e; rw [e] at hx; simp at hx)
    subst hs
    have w1 : IntKind.i64.wrap (i + 1) = ((i + 1 : Nat) : Int) := by rw [wrapN] <;> omega
    try rw [drop_get hx]
    rw [run_loop_mask (live := [2,3,5,33,34,35]) (h := by simp only [go_sem])]; dsimp only; rw [he]
    conv => lhs; arg 7; unfold L35_0 loopAt c35 Tryd.f35; simp only [loopIn, Option.getD_some, if_true]
    rw [finC_cons, Bool.and_assoc]
    have q1 : ∀ c : Bool, (inSt st x && c) = (decide (0 ≤ x) && decide (x < st) && c) := fun c => rfl
    rw [q1]
    
    have hc := spec75 x st (.p (.sl nl 1 (xs.map rowI))) (.p (slP rowR rl)) [.cells ((rowAl al).map .p), .cells [.p (iv st), .p (.sl nl 1 (xs.map rowI)), .p (slP rowR rl)]] 1 rfl
    unfold inSt at hc
    
    by_cases b1 : x < 0
    · rw [decide_eq_false (by omega : ¬ 0 ≤ x)] at hc ⊢
      simp only [go_sem, h0, h1, h2, b1, hc]
      rw [hR _ _ rfl]
    · have b1' : 0 ≤ x := by omega
      rw [decide_eq_true b1'] at hc ⊢
      by_cases b2 : st ≤ x
      · rw [decide_eq_false (by omega : ¬ x < st)] at hc ⊢
        simp only [go_sem, h0, h1, h2, b1, b2, hc]
        rw [hR _ _ rfl]
      · have b2' : x < st := by omega
        rw [decide_eq_true b2'] at hc ⊢
        by_cases b3 : i = 0
        · subst b3
          have b4 : ¬ ((0 : Int) < ((0 : Nat) : Int)) := by omega
          have e1 : prevOf xs 0 = none := rfl
          simp only [go_sem, h0, h1, h2, b1, b2, b4, e1, w1, hc]
          refine (ihd (0 + 1) _ (by omega) (by omega) rfl).trans ?_
          rw [prev_succ hx]
        · have b4 : ((0 : Int) < (i : Int)) := by omega
          have w2 : IntKind.i64.wrap ((i : Int) - 1) = ((i - 1 : Nat) : Int) := by rw [wrapN] <;> omega
          obtain ⟨y, hy⟩ : ∃ y, xs[i - 1]? = some y := ⟨xs[i - 1]'(by omega), List.getElem?_eq_getElem (by omega)⟩
          have h3 : (xs.map rowI)[i - 1]? = some [iv y] := by rw [map_get, hy]; rfl
          have h4 : (0 : Int) ≤ ((i - 1 : Nat) : Int) := by omega
          have e1 : prevOf xs i = some y := by unfold prevOf; rw [if_neg b3]; exact hy
          by_cases b5 : x ≤ y
          · have b6 : decide (y < x) = false := decide_eq_false (by omega)
            simp only [go_sem, h0, h1, h2, h3, h4, b1, b2, b4, b5, b6, e1, w2, hc]
            rw [hR _ _ rfl]
          · have b6 : decide (y < x) = true := decide_eq_true (by omega)
            simp only [go_sem, h0, h1, h2, h3, h4, b1, b2, b4, b5, b6, e1, w1, w2, hc]
            refine (ihd (i + 1) _ (by omega) (by omega) rfl).trans ?_
            rw [prev_succ hx]

theorem loop22_4 (K : Ex × S → Option (Out × List AObj)) (nl : Bool) (sz : Nat) (xs : List Int) (hsz : xs ≠ [] → sz = 1) (hlen : xs.length < 9223372036854775808) (al : Al) (st : Int) (fin : PV) (rl : AV) (ob : AObj) (R : PV) (rn ri : Int) (bs : Nat)
    (hR : ∀ e σ, get e 4 = .p (bv false) → K (.ret, ⟨e, σ, [], none, false⟩) = some (.ret (.p (bv false)), [])) :
    ∀ (d i : Nat)  (e : Env), xs.length - i = d → i ≤ xs.length → maskEnv e [2,3,62,63,64,104,105,106] = [(2, .ptr 0 0), (3, .ptr 1 0), (62, .p R), (63, .p (iv rn)), (64, .p (iv ri)), (104, .p (.sl nl sz (xs.map rowI))), (105, .p (iv xs.length)), (106, .p (iv i))] →
    run Tryd.prog T H 22 bs 4 (.loop L22_4) ⟨e, [.cells ((rowAl al).map .p), .cells [.p (iv st), .p fin, rl], ob], [], none, false⟩ (blockK 4 (some [2,3,62,63,64]) K) = if (xs.drop i).all (inSt st) = true then K (.normal, ⟨[(2, .ptr 0 0), (3, .ptr 1 0), (62, .p R), (63, .p (iv rn)), (64, .p (iv ri))], [.cells ((rowAl al).map .p), .cells [.p (iv st), .p fin, rl], ob], [], none, false⟩) else some (.ret (.p (bv false)), []) := by
  intro d
  induction d with
  | zero =>
    intro i  e hd hi  he
    have h0 : ¬ ((i : Int) < xs.length) := by omega
    try rw [List.drop_of_length_le (by omega : xs.length ≤ i)]
    rw [run_loop_mask (live := [2,3,62,63,64,104,105,106]) (h := by simp only [go_sem])]; dsimp only; rw [he]
    conv => lhs; arg 7; unfold L22_4 loopAt c22 Tryd.f22; simp only [loopIn, Option.getD_some, if_true]
    simp only [go_sem, h0, List.all_nil]
  | succ d ihd =>
    intro i  e hd hi  he
    have h0 : ((i : Int) < xs.length) := by omega
    have h1 : (0 : Int) ≤ i := by omega
    obtain ⟨x, hx⟩ : ∃ x, xs[i]? = some x := ⟨xs[i]'(by omega), List.getElem?_eq_getElem (by omega)⟩
    have hmem : x ∈ xs := List.mem_of_getElem? hx
    have h2 : (xs.map rowI)[i]? = some ([iv x]) := by rw [map_get, hx]; rfl
    have hs : sz = 1 := hsz (by intro e; rw [e] at hx; simp at hx)
    subst hs
    have w1 : IntKind.i64.wrap (i + 1) = ((i + 1 : Nat) : Int) := by rw [wrapN] <;> omega
    try rw [drop_get hx]
    rw [run_loop_mask (live := [2,3,62,63,64,104,105,106]) (h := by simp only [go_sem])]; dsimp only; rw [he]
    conv => lhs; arg 7; unfold L22_4 loopAt c22 Tryd.f22; simp only [loopIn, Option.getD_some, if_true]
    have q1 : ∀ c : Bool, (inSt st x && c) = (decide (0 ≤ x) && decide (x < st) && c) := fun c => rfl
    rw [List.all_cons, q1]
    
    by_cases b1 : x < 0
    · rw [decide_eq_false (by omega : ¬ 0 ≤ x)]
      simp only [go_sem, h0, h1, h2, b1]
      rw [hR _ _ rfl]
    · have b1' : 0 ≤ x := by omega
      rw [decide_eq_true b1']
      by_cases b2 : st ≤ x
      · rw [decide_eq_false (by omega : ¬ x < st)]
        simp only [go_sem, h0, h1, h2, b1, b2]
        rw [hR _ _ rfl]
      · have b2' : x < st := by omega
        rw [decide_eq_true b2']
        simp only [go_sem, h0, h1, h2, b1, b2, w1]
        exact ihd (i + 1) _ (by omega) (by omega) rfl

theorem loop35_4 (K : Ex × S → Option (Out × List AObj)) (nl : Bool) (sz : Nat) (xs : List Int) (hsz : xs ≠ [] → sz = 1) (hlen : xs.length < 9223372036854775808) (al : Al) (st : Int) (fin : PV) (rl : AV) (ob : AObj) (R : PV) (rn ri : Int) (bs : Nat)
    (hR : ∀ e σ, get e 4 = .p (bv false) → K (.ret, ⟨e, σ, [], none, false⟩) = some (.ret (.p (bv false)), [])) :
    ∀ (d i : Nat)  (e : Env), xs.length - i = d → i ≤ xs.length → maskEnv e [2,5,60,61,62,97,98,99] = [(2, .ptr 0 0), (5, .fn 75 [.ptr 1 0]), (60, .p R), (61, .p (iv rn)), (62, .p (iv ri)), (97, .p (.sl nl sz (xs.map rowI))), (98, .p (iv xs.length)), (99, .p (iv i))] →
    run Tryd.prog T H 35 bs 4 (.loop L35_4) ⟨e, [.cells ((rowAl al).map .p), .cells [.p (iv st), .p fin, rl], ob], [], none, false⟩ (blockK 4 (some [2,5,60,61,62]) K) = if (xs.drop i).all (inSt st) = true then K (.normal, ⟨[(2, .ptr 0 0), (5, .fn 75 [.ptr 1 0]), (60, .p R), (61, .p (iv rn)), (62, .p (iv ri))], [.cells ((rowAl al).map .p), .cells [.p (iv st), .p fin, rl], ob], [], none, false⟩) else some (.ret (.p (bv false)), []) := by
  intro d
  induction d with
  | zero =>
    intro i  e hd hi  he
    have h0 : ¬ ((i : Int) < xs.length) := by omega
    try rw [List.drop_of_length_le (by omega : xs.length ≤ i)]
    rw [run_loop_mask (live := [2,5,60,61,62,97,98,99]) (h := by simp only [go_sem])]; dsimp only; rw [he]
    conv => lhs; arg 7; unfold L35_4 loopAt c35 Tryd.f35; simp only [loopIn, Option.getD_some, if_true]
    simp only [go_sem, h0, List.all_nil]
  | succ d ihd =>
    intro i  e hd hi  he
    have h0 : ((i : Int) < xs.length) := by omega
    have h1 : (0 : Int) ≤ i := by omega
    obtain ⟨x, hx⟩ : ∃ x, xs[i]? = some x := ⟨xs[i]'(by omega), List.getElem?_eq_getElem (by omega)⟩
    have hmem : x ∈ xs := List.mem_of_getElem? hx
    have h2 : (xs.map rowI)[i]? = some ([iv x]) := by rw [map_get, hx]; rfl
    have hs : sz = 1 := hsz (by intro e; rw [e] at hx; simp at hx)
    subst hs
    have w1 : IntKind.i64.wrap (i + 1) = ((i + 1 : Nat) : Int) := by rw [wrapN] <;> omega
    try rw [drop_get hx]
    rw [run_loop_mask (live := [2,5,60,61,62,97,98,99]) (h := by simp only [go_sem])]; dsimp only; rw [he]
    conv => lhs; arg 7; unfold L35_4 loopAt c35 Tryd.f35; simp only [loopIn, Option.getD_some, if_true]
    have q1 : ∀ c : Bool, (inSt st x && c) = (decide (0 ≤ x) && decide (x < st) && c) := fun c => rfl
    rw [List.all_cons, q1]
    
    have hc := spec75 x st (.p fin) rl [.cells ((rowAl al).map .p), .cells [.p (iv st), .p fin, rl], ob] 1 rfl
    unfold inSt at hc
    
    by_cases b1 : x < 0
    · rw [decide_eq_false (by omega : ¬ 0 ≤ x)] at hc ⊢
      simp only [go_sem, h0, h1, h2, b1, hc]
      rw [hR _ _ rfl]
    · have b1' : 0 ≤ x := by omega
      rw [decide_eq_true b1'] at hc ⊢
      by_cases b2 : st ≤ x
      · rw [decide_eq_false (by omega : ¬ x < st)] at hc ⊢
        simp only [go_sem, h0, h1, h2, b1, b2, hc]
        rw [hR _ _ rfl]
      · have b2' : x < st := by omega
        rw [decide_eq_true b2'] at hc ⊢
        simp only [go_sem, h0, h1, h2, b1, b2, w1, hc]
        exact ihd (i + 1) _ (by omega) (by omega) rfl

theorem loop22_2 (K : Ex × S → Option (Out × List AObj)) (nl : Bool) (sz : Nat) (xs : List Rule) (hsz : xs ≠ [] → sz = 3) (hlen : xs.length < 9223372036854775808) (hrok : ∀ r, r ∈ xs → r.ok) (nl2 : Bool) (sz2 : Nat) (rs : List Int) (hsz2 : rs ≠ [] → sz2 = 1) (st : Int) (fin : PV) (rl : AV)
    (hR : ∀ e σ, get e 4 = .p (bv false) → K (.ret, ⟨e, σ, [], none, false⟩) = some (.ret (.p (bv false)), [])) :
    ∀ (d i : Nat)  (e : Env), xs.length - i = d → i ≤ xs.length → maskEnv e [2,3,62,63,64] = [(2, .ptr 0 0), (3, .ptr 1 0), (62, .p (.sl nl sz (xs.map rowR))), (63, .p (iv xs.length)), (64, .p (iv i))] →
    run Tryd.prog T H 22 0 2 (.loop L22_2) ⟨e, [.cells [.p (.sl nl2 sz2 (rs.map rowI))], .cells [.p (iv st), .p fin, rl]], [], none, false⟩ (blockK 2 (some []) K) = if (xs.drop i).all (ruleOk rs st) = true then K (.normal, ⟨[], [.cells [.p (.sl nl2 sz2 (rs.map rowI))], .cells [.p (iv st), .p fin, rl]], [], none, false⟩) else some (.ret (.p (bv false)), []) := by
  intro d
  induction d with
  | zero =>
    intro i  e hd hi  he
    have h0 : ¬ ((i : Int) < xs.length) := by omega
    try rw [List.drop_of_length_le (by omega : xs.length ≤ i)]
    rw [run_loop_mask (live := [2,3,62,63,64]) (h := by simp only [go_sem])]; dsimp only; rw [he]
    conv => lhs; arg 7; unfold L22_2 loopAt c22 Tryd.f22; simp only [loopIn, Option.getD_some, if_true]
    simp only [go_sem, h0, List.all_nil]
  | succ d ihd =>
    intro i  e hd hi  he
    have h0 : ((i : Int) < xs.length) := by omega
    have h1 : (0 : Int) ≤ i := by omega
    obtain ⟨x, hx⟩ : ∃ x, xs[i]? = some x := ⟨xs[i]'(by omega), List.getElem?_eq_getElem (by omega)⟩
    have hmem : x ∈ xs := List.mem_of_getElem? hx
    have h2 : (xs.map rowR)[i]? = some (rowR x) := by rw [map_get, hx]; rfl
    have hs : sz = 3 := hsz (by intro e; rw [e] at hx; simp at hx)
    subst hs
    have w1 : IntKind.i64.wrap (i + 1) = ((i + 1 : Nat) : Int) := by rw [wrapN] <;> omega
    try rw [drop_get hx]
    rw [run_loop_mask (live := [2,3,62,63,64]) (h := by simp only [go_sem])]; dsimp only; rw [he]
    conv => lhs; arg 7; unfold L22_2 loopAt c22 Tryd.f22; simp only [loopIn, Option.getD_some, if_true]
    obtain ⟨sy, ⟨nl1, sz1, fr⟩, to⟩ := x
    obtain ⟨k1, k2, k3, k4, k5⟩ := hrok _ hmem
    simp only [Sl.ok] at k3 k4
    have h2' : (xs.map rowR)[i]? = some [iv sy, .sl nl1 sz1 (fr.map rowI), iv to] := h2
    have e0 : ∀ r : Bool, (ruleOk rs st ⟨sy, ⟨nl1, sz1, fr⟩, to⟩ && r) = (hdOk rs sy fr.length && inSt st to && fr.all (inSt st) && r) := fun r => rfl
    rw [List.all_cons, e0]
    
    by_cases b1 : sy < 0
    · have e1 : hdOk rs sy fr.length = false := by unfold hdOk; rw [decide_eq_false (by omega : ¬ 0 ≤ sy)]; rfl
      simp only [go_sem, h0, h1, h2', b1, e1]
      rw [hR _ _ rfl]
    · by_cases b2 : (rs.length : Int) ≤ sy
      · have e1 : hdOk rs sy fr.length = false := by unfold hdOk; rw [decide_eq_false (by omega : ¬ sy < rs.length)]; simp
        simp only [go_sem, List.length_map, h0, h1, h2', b1, b2, e1]
        rw [hR _ _ rfl]
      · have h3 : 0 ≤ sy := by omega
        obtain ⟨r, hr⟩ : ∃ r, rs[sy.toNat]? = some r := ⟨rs[sy.toNat]'(by omega), List.getElem?_eq_getElem (by omega)⟩
        have h4 : (rs.map rowI)[sy.toNat]? = some [iv r] := by rw [map_get, hr]; rfl
        have hs2 : sz2 = 1 := hsz2 (by intro e; rw [e] at hr; simp at hr)
        subst hs2
        have e5 : hdOk rs sy fr.length = ((fr.length : Int) == r) := by unfold hdOk; rw [decide_eq_true h3, decide_eq_true (by omega : sy < rs.length), hr]; simp
        by_cases b3 : (fr.length : Int) = r
        · have e3 : ((fr.length : Int) != r) = false := by simpa using b3
          have e4 : hdOk rs sy fr.length = true := by rw [e5]; simpa using b3
          by_cases b4 : to < 0
          · have e6 : inSt st to = false := by unfold inSt; rw [decide_eq_false (by omega : ¬ 0 ≤ to)]; rfl
            skip
            simp only [go_sem, List.length_map, h0, h1, h2', h3, h4, b1, b2, b4, e3, e4, e6]
            rw [hR _ _ rfl]
          · by_cases b5 : st ≤ to
            · have e6 : inSt st to = false := by unfold inSt; rw [decide_eq_false (by omega : ¬ to < st), Bool.and_false]
              skip
              simp only [go_sem, List.length_map, h0, h1, h2', h3, h4, b1, b2, b4, b5, e3, e4, e6]
              rw [hR _ _ rfl]
            · have e6 : inSt st to = true := by unfold inSt; rw [decide_eq_true (by omega : to < st), decide_eq_true (by omega : 0 ≤ to)]; rfl
              skip
              simp only [go_sem, List.length_map, h0, h1, h2', h3, h4, b1, b2, b4, b5, e3, e4, e6]
              refine (loop22_4 _ nl1 sz1 fr k3 k4 ⟨⟨nl2, 1, rs⟩⟩ st fin rl _ _ _ _ _ (fun e σ he => by simp only [go_sem]; rw [hR _ _ he]) fr.length 0 _ (by omega) (by omega) rfl).trans ?_
              rw [List.drop_zero]
              cases b6 : fr.all (inSt st) with
              | false => simp only [go_sem]
              | true =>
                simp only [go_sem, w1]
                exact ihd (i + 1) _ (by omega) (by omega) rfl
        · have e3 : ((fr.length : Int) != r) = true := by simpa using b3
          have e4 : hdOk rs sy fr.length = false := by rw [e5]; simpa using b3
          simp only [go_sem, List.length_map, h0, h1, h2', h3, h4, b1, b2, e3, e4]
          rw [hR _ _ rfl]

theorem loop35_2 (K : Ex × S → Option (Out × List AObj)) (nl : Bool) (sz : Nat) (xs : List Rule) (hsz : xs ≠ [] → sz = 3) (hlen : xs.length < 9223372036854775808) (hrok : ∀ r, r ∈ xs → r.ok) (nl2 : Bool) (sz2 : Nat) (rs : List Int) (hsz2 : rs ≠ [] → sz2 = 1) (st : Int) (fin : PV) (rl : AV)
    (hR : ∀ e σ, get e 4 = .p (bv false) → K (.ret, ⟨e, σ, [], none, false⟩) = some (.ret (.p (bv false)), [])) :
    ∀ (d i : Nat)  (e : Env), xs.length - i = d → i ≤ xs.length → maskEnv e [2,5,60,61,62] = [(2, .ptr 0 0), (5, .fn 75 [.ptr 1 0]), (60, .p (.sl nl sz (xs.map rowR))), (61, .p (iv xs.length)), (62, .p (iv i))] →
    run Tryd.prog T H 35 0 2 (.loop L35_2) ⟨e, [.cells [.p (.sl nl2 sz2 (rs.map rowI))], .cells [.p (iv st), .p fin, rl]], [], none, false⟩ (blockK 2 (some []) K) = if (xs.drop i).all (ruleOk rs st) = true then K (.normal, ⟨[], [.cells [.p (.sl nl2 sz2 (rs.map rowI))], .cells [.p (iv st), .p fin, rl]], [], none, false⟩) else some (.ret (.p (bv false)), []) := by
  intro d
  induction d with
  | zero =>
    intro i  e hd hi  he
    have h0 : ¬ ((i : Int) < xs.length) := by omega
    try rw [List.drop_of_length_le (by omega : xs.length ≤ i)]
    rw [run_loop_mask (live := [2,5,60,61,62]) (h := by simp only [go_sem])]; dsimp only; rw [he]
    conv => lhs; arg 7; unfold L35_2 loopAt c35 Tryd.f35; simp only [loopIn, Option.getD_some, if_true]
    simp only [go_sem, h0, List.all_nil]
  | succ d ihd =>
    intro i  e hd hi  he
    have h0 : ((i : Int) < xs.length) := by omega
    have h1 : (0 : Int) ≤ i := by omega
    obtain ⟨x, hx⟩ : ∃ x, xs[i]? = some x := ⟨xs[i]'(by omega), List.getElem?_eq_getElem (by omega)⟩
    have hmem : x ∈ xs := List.mem_of_getElem? hx
    have h2 : (xs.map rowR)[i]? = some (rowR x) := by rw [map_get, hx]; rfl
    have hs : sz = 3 := hsz (by intro e; rw [e] at hx; simp at hx)
    subst hs
    have w1 : IntKind.i64.wrap (i + 1) = ((i + 1 : Nat) : Int) := by rw [wrapN] <;> omega
    try rw [drop_get hx]
    rw [run_loop_mask (live := [2,5,60,61,62]) (h := by simp only [go_sem])]; dsimp only; rw [he]
    conv => lhs; arg 7; unfold L35_2 loopAt c35 Tryd.f35; simp only [loopIn, Option.getD_some, if_true]
    obtain ⟨sy, ⟨nl1, sz1, fr⟩, to⟩ := x
    obtain ⟨k1, k2, k3, k4, k5⟩ := hrok _ hmem
    simp only [Sl.ok] at k3 k4
    have h2' : (xs.map rowR)[i]? = some [iv sy, .sl nl1 sz1 (fr.map rowI), iv to] := h2
    have e0 : ∀ r : Bool, (ruleOk rs st ⟨sy, ⟨nl1, sz1, fr⟩, to⟩ && r) = (hdOk rs sy fr.length && inSt st to && fr.all (inSt st) && r) := fun r => rfl
    rw [List.all_cons, e0]
    
    have hc := spec75 to st (.p fin) rl [.cells [.p (.sl nl2 sz2 (rs.map rowI))], .cells [.p (iv st), .p fin, rl], .cells [.p (iv sy), .p (.sl nl1 sz1 (fr.map rowI)), .p (iv to)]] 1 rfl
    unfold inSt at hc
    
    by_cases b1 : sy < 0
    · have e1 : hdOk rs sy fr.length = false := by unfold hdOk; rw [decide_eq_false (by omega : ¬ 0 ≤ sy)]; rfl
      simp only [go_sem, h0, h1, h2', b1, e1]
      rw [hR _ _ rfl]
    · by_cases b2 : (rs.length : Int) ≤ sy
      · have e1 : hdOk rs sy fr.length = false := by unfold hdOk; rw [decide_eq_false (by omega : ¬ sy < rs.length)]; simp
        simp only [go_sem, List.length_map, h0, h1, h2', b1, b2, e1]
        rw [hR _ _ rfl]
      · have h3 : 0 ≤ sy := by omega
        obtain ⟨r, hr⟩ : ∃ r, rs[sy.toNat]? = some r := ⟨rs[sy.toNat]'(by omega), List.getElem?_eq_getElem (by omega)⟩
        have h4 : (rs.map rowI)[sy.toNat]? = some [iv r] := by rw [map_get, hr]; rfl
        have hs2 : sz2 = 1 := hsz2 (by intro e; rw [e] at hr; simp at hr)
        subst hs2
        have e5 : hdOk rs sy fr.length = ((fr.length : Int) == r) := by unfold hdOk; rw [decide_eq_true h3, decide_eq_true (by omega : sy < rs.length), hr]; simp
        by_cases b3 : (fr.length : Int) = r
        · have e3 : ((fr.length : Int) != r) = false := by simpa using b3
          have e4 : hdOk rs sy fr.length = true := by rw [e5]; simpa using b3
          by_cases b4 : to < 0
          · have e6 : inSt st to = false := by unfold inSt; rw [decide_eq_false (by omega : ¬ 0 ≤ to)]; rfl
            rw [decide_eq_false (by omega : ¬ 0 ≤ to)] at hc
            simp only [go_sem, List.length_map, h0, h1, h2', h3, h4, b1, b2, b4, e3, e4, e6, hc]
            rw [hR _ _ rfl]
          · by_cases b5 : st ≤ to
            · have e6 : inSt st to = false := by unfold inSt; rw [decide_eq_false (by omega : ¬ to < st), Bool.and_false]
              rw [decide_eq_true (by omega : 0 ≤ to), decide_eq_false (by omega : ¬ to < st)] at hc
              simp only [go_sem, List.length_map, h0, h1, h2', h3, h4, b1, b2, b4, b5, e3, e4, e6, hc]
              rw [hR _ _ rfl]
            · have e6 : inSt st to = true := by unfold inSt; rw [decide_eq_true (by omega : to < st), decide_eq_true (by omega : 0 ≤ to)]; rfl
              rw [decide_eq_true (by omega : 0 ≤ to), decide_eq_true (by omega : to < st)] at hc
              simp only [go_sem, List.length_map, h0, h1, h2', h3, h4, b1, b2, b4, b5, e3, e4, e6, hc]
              refine (loop35_4 _ nl1 sz1 fr k3 k4 ⟨⟨nl2, 1, rs⟩⟩ st fin rl _ _ _ _ _ (fun e σ he => by simp only [go_sem]; rw [hR _ _ he]) fr.length 0 _ (by omega) (by omega) rfl).trans ?_
              rw [List.drop_zero]
              cases b6 : fr.all (inSt st) with
              | false => simp only [go_sem]
              | true =>
                simp only [go_sem, w1]
                exact ihd (i + 1) _ (by omega) (by omega) rfl
        · have e3 : ((fr.length : Int) != r) = true := by simpa using b3
          have e4 : hdOk rs sy fr.length = false := by rw [e5]; simpa using b3
          simp only [go_sem, List.length_map, h0, h1, h2', h3, h4, b1, b2, e3, e4]
          rw [hR _ _ rfl]

theorem spec22 (al : Al) (hal : al.ok) (a : Au) (ha : a.ok) :
    call Tryd.prog T H (.fn 22) [.p (.agg (rowAl al)), .p (.agg (rowA a))] [] = some (.ret (.p (bv (VAu al a))), []) := by
  rw [call22]
  conv => lhs; arg 7; unfold c22 Tryd.f22; simp only [Option.getD_some]
  have hc1 := spec57 al hal
  obtain ⟨⟨nl2, sz2, rs⟩⟩ := al
  obtain ⟨hsz2, hlen2, _⟩ := hal
  obtain ⟨st, ⟨nl, sz, xs⟩, ⟨nl3, sz3, us⟩⟩ := a
  obtain ⟨k1, k2, k3, k4, k5, k6, k7⟩ := ha
  simp only [Sl.ok] at hsz2 hlen2 k2 k3 k4 k5 k6 k7
  unfold rowAl at hc1
  simp only [slP] at hc1
  have e0 : VAu ⟨⟨nl2, sz2, rs⟩⟩ ⟨st, ⟨nl, sz, xs⟩, ⟨nl3, sz3, us⟩⟩ = (VA ⟨⟨nl2, sz2, rs⟩⟩ && decide (0 ≤ st) && decide (st ≤ 300) && decide (us.length ≤ 20000) && finC st none xs && us.all (ruleOk rs st)) := rfl
  rw [e0]
  cases hb : VA ⟨⟨nl2, sz2, rs⟩⟩ with
  | false =>
    rw [hb] at hc1
    simp only [go_sem, rowAl, rowA, slP, List.length_map, hc1]
  | true =>
    rw [hb] at hc1
    by_cases b1 : st < 0
    · have e1 : decide (0 ≤ st) = false := decide_eq_false (by omega)
      simp only [go_sem, rowAl, rowA, slP, List.length_map, hc1, b1, e1]
    · have e1 : decide (0 ≤ st) = true := decide_eq_true (by omega)
      by_cases b2 : 300 < st
      · have e2 : decide (st ≤ 300) = false := decide_eq_false (by omega)
        simp only [go_sem, rowAl, rowA, slP, List.length_map, hc1, b1, b2, e1, e2]
      · have e2 : decide (st ≤ 300) = true := decide_eq_true (by omega)
        by_cases b3 : 20000 < (us.length : Int)
        · have e3 : decide (us.length ≤ 20000) = false := decide_eq_false (by omega)
          simp only [go_sem, rowAl, rowA, slP, List.length_map, hc1, b1, b2, b3, e1, e2, e3]
        · have e3 : decide (us.length ≤ 20000) = true := decide_eq_true (by omega)
          simp only [go_sem, rowAl, rowA, slP, List.length_map, hc1, b1, b2, b3, e1, e2, e3]
          refine (loop22_0 _ nl sz xs k2 k3 ⟨⟨nl2, sz2, rs⟩⟩ st ⟨nl3, sz3, us⟩ (fun e σ he => by simp only [go_sem, he]) xs.length 0 _ (by omega) (by omega) rfl).trans ?_
          have e4 : finC st (prevOf xs 0) (xs.drop 0) = finC st none xs := by rw [List.drop_zero]; rfl
          rw [e4]
          cases hb4 : finC st none xs with
          | false => simp only [go_sem]
          | true =>
            simp only [go_sem, rowAl, rowA, slP, List.length_map]
            refine (loop22_2 _ nl3 sz3 us k5 k6 k7 nl2 sz2 rs hsz2 st _ _ (fun e σ he => by simp only [go_sem, he]) us.length 0 _ (by omega) (by omega) rfl).trans ?_
            rw [List.drop_zero]
            cases hb5 : us.all (ruleOk rs st) with
            | false => simp only [go_sem]
            | true => simp only [go_sem]

theorem spec35 (al : Al) (hal : al.ok) (a : Au) (ha : a.ok) :
    call Tryd.prog T H (.fn 35) [.p (.agg (rowAl al)), .p (.agg (rowA a))] [] = some (.ret (.p (bv (VAu al a))), []) := by
  rw [call35]
  conv => lhs; arg 7; unfold c35 Tryd.f35; simp only [Option.getD_some]
  have hc1 := spec74 al hal
  obtain ⟨⟨nl2, sz2, rs⟩⟩ := al
  obtain ⟨hsz2, hlen2, _⟩ := hal
  obtain ⟨st, ⟨nl, sz, xs⟩, ⟨nl3, sz3, us⟩⟩ := a
  obtain ⟨k1, k2, k3, k4, k5, k6, k7⟩ := ha
  simp only [Sl.ok] at hsz2 hlen2 k2 k3 k4 k5 k6 k7
  unfold rowAl at hc1
  simp only [slP] at hc1
  have e0 : VAu ⟨⟨nl2, sz2, rs⟩⟩ ⟨st, ⟨nl, sz, xs⟩, ⟨nl3, sz3, us⟩⟩ = (VA ⟨⟨nl2, sz2, rs⟩⟩ && decide (0 ≤ st) && decide (st ≤ 300) && decide (us.length ≤ 20000) && finC st none xs && us.all (ruleOk rs st)) := rfl
  rw [e0]
  cases hb : VA ⟨⟨nl2, sz2, rs⟩⟩ with
  | false =>
    rw [hb] at hc1
    simp only [go_sem, rowAl, rowA, slP, List.length_map, hc1]
  | true =>
    rw [hb] at hc1
    by_cases b1 : st < 0
    · have e1 : decide (0 ≤ st) = false := decide_eq_false (by omega)
      simp only [go_sem, rowAl, rowA, slP, List.length_map, hc1, b1, e1]
    · have e1 : decide (0 ≤ st) = true := decide_eq_true (by omega)
      by_cases b2 : 300 < st
      · have e2 : decide (st ≤ 300) = false := decide_eq_false (by omega)
        simp only [go_sem, rowAl, rowA, slP, List.length_map, hc1, b1, b2, e1, e2]
      · have e2 : decide (st ≤ 300) = true := decide_eq_true (by omega)
        by_cases b3 : 20000 < (us.length : Int)
        · have e3 : decide (us.length ≤ 20000) = false := decide_eq_false (by omega)
          simp only [go_sem, rowAl, rowA, slP, List.length_map, hc1, b1, b2, b3, e1, e2, e3]
        · have e3 : decide (us.length ≤ 20000) = true := decide_eq_true (by omega)
          simp only [go_sem, rowAl, rowA, slP, List.length_map, hc1, b1, b2, b3, e1, e2, e3]
          refine (loop35_0 _ nl sz xs k2 k3 ⟨⟨nl2, sz2, rs⟩⟩ st ⟨nl3, sz3, us⟩ (fun e σ he => by simp only [go_sem, he]) xs.length 0 _ (by omega) (by omega) rfl).trans ?_
          have e4 : finC st (prevOf xs 0) (xs.drop 0) = finC st none xs := by rw [List.drop_zero]; rfl
          rw [e4]
          cases hb4 : finC st none xs with
          | false => simp only [go_sem]
          | true =>
            simp only [go_sem, rowAl, rowA, slP, List.length_map]
            refine (loop35_2 _ nl3 sz3 us k5 k6 k7 nl2 sz2 rs hsz2 st _ _ (fun e σ he => by simp only [go_sem, he]) us.length 0 _ (by omega) (by omega) rfl).trans ?_
            rw [List.drop_zero]
            cases hb5 : us.all (ruleOk rs st) with
            | false => simp only [go_sem]
            | true => simp only [go_sem]

end Go.AM.S03

namespace Go.AM.S03
open Go Go.Proofs Go.AM
set_option maxRecDepth 100000


theorem spec52 (al : Al) (hal : al.ok) (a : Au) (ha : a.ok) (t : Tr) (ht : t.ok) :
    call Tryd.prog T H (.fn 52) [.p (.agg (rowAl al)), .p (.agg (rowA a)), .p (.agg (rowT t))] [] = some (.ret (.p (iv (if (VAu al a && VT al t) = true then 0 else 1))), []) := by
  rw [call52]
  conv => lhs; arg 7; unfold c52 Tryd.f52; simp only [Option.getD_some]
  have hc1 := spec22 al hal a ha
  have hc2 := spec16 al hal t ht
  obtain ⟨⟨nl, sz, rs⟩⟩ := al
  obtain ⟨st, ⟨nl2, sz2, xs⟩, ⟨nl3, sz3, us⟩⟩ := a
  obtain ⟨s, nl', sz', ks⟩ := t
  rw [rowT_mk] at hc2 ⊢
  unfold rowAl rowA at hc1
  unfold rowAl at hc2
  unfold rowAl rowA
  cases hb : VAu ⟨⟨nl, sz, rs⟩⟩ ⟨st, ⟨nl2, sz2, xs⟩, ⟨nl3, sz3, us⟩⟩ with
  | false =>
    rw [hb] at hc1
    simp only [go_sem, hc1]
  | true =>
    rw [hb] at hc1
    cases hb2 : VT ⟨⟨nl, sz, rs⟩⟩ (.mk s nl' sz' ks) with
    | false =>
      rw [hb2] at hc2
      simp only [go_sem, hc1, hc2]
    | true =>
      rw [hb2] at hc2
      simp only [go_sem, hc1, hc2]

theorem spec49 (al : Al) (hal : al.ok) (a : Au) (ha : a.ok) (t : Tr) (ht : t.ok) :
    call Tryd.prog T H (.fn 49) [.p (.agg (rowAl al)), .p (.agg (rowA a)), .p (.agg (rowT t))] [] = some (.ret (.p (iv (if (VAu al a && VT al t) = true then 0 else 1))), []) := by
  rw [call49]
  conv => lhs; arg 7; unfold c49 Tryd.f49; simp only [Option.getD_some]
  have hc1 := spec35 al hal a ha
  have hc2 := spec60 al hal t ht
  obtain ⟨⟨nl, sz, rs⟩⟩ := al
  obtain ⟨st, ⟨nl2, sz2, xs⟩, ⟨nl3, sz3, us⟩⟩ := a
  obtain ⟨s, nl', sz', ks⟩ := t
  rw [rowT_mk] at hc2 ⊢
  unfold rowAl rowA at hc1
  unfold rowAl at hc2
  unfold rowAl rowA
  cases hb : VAu ⟨⟨nl, sz, rs⟩⟩ ⟨st, ⟨nl2, sz2, xs⟩, ⟨nl3, sz3, us⟩⟩ with
  | false =>
    rw [hb] at hc1
    simp only [go_sem, hc1]
  | true =>
    rw [hb] at hc1
    cases hb2 : VT ⟨⟨nl, sz, rs⟩⟩ (.mk s nl' sz' ks) with
    | false =>
      rw [hb2] at hc2
      simp only [go_sem, hc1, hc2]
    | true =>
      rw [hb2] at hc2
      simp only [go_sem, hc1, hc2]


def lowN (n : Int) (xs : List Int) : Nat := (xs.takeWhile fun x => decide (x < n)).length
def insI (xs : List Int) (n : Int) : List Int := if xs[lowN n xs]? = some n then xs else xs.take (lowN n xs) ++ n :: xs.drop (lowN n xs)
theorem lowN_le (n : Int) (xs : List Int) : lowN n xs ≤ xs.length := by unfold lowN; exact (List.takeWhile_sublist _).length_le
theorem lowN_cons (n x : Int) (xs : List Int) : lowN n (x :: xs) = if x < n then lowN n xs + 1 else 0 := by
  unfold lowN
  by_cases h : x < n
  · simp [List.takeWhile_cons, h]
  · simp [List.takeWhile_cons, h]

theorem loop92_0 (K : Ex × S → Option (Out × List AObj)) (nl : Bool) (sz : Nat) (xs : List Int) (hsz : xs ≠ [] → sz = 1) (hlen : xs.length ≤ 1000000) (n : Int)
     :
    ∀ (d i : Nat)  (e : Env), xs.length - i = d → i ≤ xs.length → maskEnv e [0,1,5] = [(0, .p (.sl nl sz (xs.map rowI))), (1, .p (iv n)), (5, .p (iv i))] →
    run Tryd.prog T H 92 0 0 (.loop L92_0) ⟨e, [], [], none, false⟩ (blockK 0 (some [0,1,5]) K) = K (.normal, ⟨[(0, .p (.sl nl sz (xs.map rowI))), (1, .p (iv n)), (5, .p (iv ((i + lowN n (xs.drop i) : Nat) : Int)))], [], [], none, false⟩) := by
  intro d
  induction d with
  | zero =>
    intro i  e hd hi  he
    have h0 : ¬ ((i : Int) < xs.length) := by omega
    try rw [List.drop_of_length_le (by omega : xs.length ≤ i)]
    rw [run_loop_mask (live := [0,1,5]) (h := by simp only [go_sem])]; dsimp only; rw [he]
    conv => lhs; arg 7; unfold L92_0 loopAt c92 Tryd.f92; simp only [loopIn, Option.getD_some, if_true]
    have e0 : lowN n [] = 0 := rfl
    simp only [go_sem, h0, e0, List.length_map]
  | succ d ihd =>
    intro i  e hd hi  he
    have h0 : ((i : Int) < xs.length) := by omega
    have h1 : (0 : Int) ≤ i := by omega
    obtain ⟨x, hx⟩ : ∃ x, xs[i]? = some x := ⟨xs[i]'(by omega), List.getElem?_eq_getElem (by omega)⟩
    have hmem : x ∈ xs := List.mem_of_getElem? hx
    have h2 : (xs.map rowI)[i]? = some ([iv x]) := by rw [map_get, hx]; rfl
    have hs : sz = 1 := hsz (by intro e; rw [e] at hx; simp at hx)
    subst hs
    have w1 : IntKind.i64.wrap (i + 1) = ((i + 1 : Nat) : Int) := by rw [wrapN] <;> omega
    try rw [drop_get hx]
    rw [run_loop_mask (live := [0,1,5]) (h := by simp only [go_sem])]; dsimp only; rw [he]
    conv => lhs; arg 7; unfold L92_0 loopAt c92 Tryd.f92; simp only [loopIn, Option.getD_some, if_true]
    rw [lowN_cons]
    by_cases hb : x < n
    · simp only [go_sem, h0, h1, h2, hb, w1, List.length_map]
      refine (ihd (i + 1) _ (by omega) (by omega) rfl).trans ?_
      congr 9
      omega
    · simp only [go_sem, h0, h1, h2, hb, w1, List.length_map]

theorem spec92 (nl : Bool) (sz : Nat) (xs : List Int) (hsz : xs ≠ [] → sz = 1) (hlen : xs.length ≤ 1000000) (n : Int) :
    ∃ v, call Tryd.prog T H (.fn 92) [.p (.sl nl sz (xs.map rowI)), .p (iv n)] [] = some (.ret v, []) ∧ IsI v (insI xs n) := by
  rw [call92]
  conv => arg 1; ext v; lhs; lhs; arg 7; unfold c92 Tryd.f92; simp only [Option.getD_some]
  have hl := fun K => loop92_0 K nl sz xs hsz hlen n xs.length 0
  have hj := lowN_le n xs
  by_cases hf : xs[lowN n xs]? = some n
  · have b1 : ((lowN n xs : Nat) : Int) < xs.length := by have := (List.getElem?_eq_some_iff.1 hf).1; omega
    have hs : sz = 1 := hsz (by intro e; rw [e] at hf; simp at hf)
    subst hs
    have h2 : (xs.map rowI)[lowN n xs]? = some [iv n] := by rw [map_get, hf]; rfl
    have h1 : (0 : Int) ≤ ((lowN n xs : Nat) : Int) := by omega
    have e1 : insI xs n = xs := by unfold insI; rw [if_pos hf]
    rw [e1]
    refine ⟨.p (.sl nl 1 (xs.map rowI)), ?_, nl, 1, fun _ => rfl, .inl rfl⟩
    simp only [go_sem]
    refine (hl _ _ (by omega) (by omega) rfl).trans ?_
    simp only [go_sem, List.drop_zero, List.length_map, b1, h1, h2]
  · have e1 : insI xs n = xs.take (lowN n xs) ++ n :: xs.drop (lowN n xs) := by unfold insI; rw [if_neg hf]
    rw [e1]
    have hrow : ∀ a b : List Int, (a.map rowI) ++ [[iv n]] ++ (b.map rowI) = (a ++ n :: b).map rowI := fun a b => by simp [rowI]
    have hz : (sz = 1 ∧ xs ≠ []) ∨ xs = [] := by
      by_cases h : xs = []
      · exact .inr h
      · exact .inl ⟨hsz h, h⟩
    refine ⟨.own 1 ((xs.take (lowN n xs) ++ n :: xs.drop (lowN n xs)).map rowI), ?_, false, 1, fun _ => rfl, .inr ⟨rfl, rfl⟩⟩
    rcases hz with ⟨hs, hne⟩ | rfl
    · subst hs
      have h1 : (0 : Int) ≤ ((lowN n xs : Nat) : Int) := by omega
      have h3 : ¬ ((lowN n xs : Nat) : Int) < 0 := by omega
      have hrows : ((xs.map rowI).take (lowN n xs)) ++ ([iv n] :: (xs.map rowI).drop (lowN n xs)) = (xs.take (lowN n xs) ++ n :: xs.drop (lowN n xs)).map rowI := by simp [rowI]
      have ht : (List.take (lowN n xs) (xs.map rowI)).length = lowN n xs := by simp; omega
      have hd : (List.drop (lowN n xs) (xs.map rowI)).length = xs.length - lowN n xs := by simp
      have hb1 : boundOk (lowN n xs) 8 = true := bnd_ok (by omega) (by omega)
      have hb2 : boundOk (lowN n xs + 1) 8 = true := bnd_ok (by omega) (by omega)
      have hb3 : boundOk (lowN n xs + 1 + (xs.length - lowN n xs)) 8 = true := bnd_ok (by omega) (by omega)
      have hsub : List.take xs.length (xs.map rowI) = xs.map rowI := List.take_of_length_le (by simp)
      by_cases b1 : ((lowN n xs : Nat) : Int) < xs.length
      · obtain ⟨y, hy⟩ : ∃ y, xs[lowN n xs]? = some y := ⟨xs[lowN n xs]'(by omega), List.getElem?_eq_getElem (by omega)⟩
        have h2 : (xs.map rowI)[lowN n xs]? = some [iv y] := by rw [map_get, hy]; rfl
        have b2 : (y == n) = false := by
          have : y ≠ n := fun e => hf (by rw [hy, e])
          simpa using this
        simp only [go_sem]
        refine (hl _ _ (by omega) (by omega) rfl).trans ?_
        simp only [go_sem, List.drop_zero, List.length_map, List.length_append, b1, b2, h1, h2, h3, hj, hb1, hb2, hb3, ht, hd, List.append_assoc, hrows, hsub]
      · simp only [go_sem]
        refine (hl _ _ (by omega) (by omega) rfl).trans ?_
        simp only [go_sem, List.drop_zero, List.length_map, List.length_append, b1, h1, h3, hj, hb1, hb2, hb3, ht, hd, List.append_assoc, hrows, hsub]
    · simp only [go_sem]
      refine (hl _ _ (by omega) (by omega) rfl).trans ?_
      have hb1 : boundOk 0 8 = true := rfl
      have hb2 : boundOk 1 8 = true := rfl
      have e0 : lowN n [] = 0 := rfl
      have b0 : ¬ (((0 : Nat) : Int) < ((0 : Nat) : Int)) := by omega
      have b3 : (0 : Int) ≤ ((0 : Nat) : Int) := by omega
      simp only [go_sem, List.drop_zero, List.length_map, List.length_append, hb1, hb2, e0, b0, b3, rowI]


def rowS (s : Sl Int) : List PV := [slP rowI s]
def setOk (s : Sl Int) : Prop := Sl.ok 1 s ∧ s.xs.length < 9223372036854775808
def fitB (sets : List (Sl Int)) (fr : List Int) : Bool := (sets.zip fr).all fun p => p.1.xs.contains p.2
def stepF (s : Int) (sets : List (Sl Int)) : List Rule → List Int → List Int
  | [], out => out
  | r :: us, out => stepF s sets us (if (r.sym == s && fitB sets r.from_.xs) = true then insI out r.to else out)
theorem insI_len (xs : List Int) (n : Int) : (insI xs n).length ≤ xs.length + 1 := by
  have := lowN_le n xs
  unfold insI
  split
  · omega
  · simp; omega

theorem loop80_2 (K : Ex × S → Option (Out × List AObj)) (nl : Bool) (sz : Nat) (xs : List (Sl Int)) (hsz : xs ≠ [] → sz = 1) (hlen : xs.length < 9223372036854775808) (hset : ∀ s, s ∈ xs → setOk s) (s : Int) (v : AV) (hlt : ∀ n, ltV n v = true) (ob : AObj) (sy to : Int) (nl1 : Bool) (sz1 : Nat) (fr : List Int) (hsz1 : fr ≠ [] → sz1 = 1) (R : PV) (rn ri : Int) (bs : Nat)
     :
    ∀ (d i : Nat) (b : Bool) (e : Env), xs.length - i = d → i ≤ xs.length → (b = true → fr.length = xs.length) → maskEnv e [1,2,7,9,10,11,13,14,15] = [(1, .p (iv s)), (2, .p (.sl nl sz (xs.map rowS))), (7, v), (9, .ptr 1 0), (10, .p (bv b)), (11, .p (iv i)), (13, .p R), (14, .p (iv rn)), (15, .p (iv ri))] →
    run Tryd.prog T H 80 bs 2 (.loop L80_2) ⟨e, [ob, .cells [.p (iv sy), .p (.sl nl1 sz1 (fr.map rowI)), .p (iv to)]], [], none, false⟩ (blockK 2 (some [1,2,7,9,10,13,14,15]) K) = K (.normal, ⟨[(1, .p (iv s)), (2, .p (.sl nl sz (xs.map rowS))), (7, v), (9, .ptr 1 0), (10, .p (bv (b && fitB (xs.drop i) (fr.drop i)))), (13, .p R), (14, .p (iv rn)), (15, .p (iv ri))], [ob, .cells [.p (iv sy), .p (.sl nl1 sz1 (fr.map rowI)), .p (iv to)]], [], none, false⟩) := by
  intro d
  induction d with
  | zero =>
    intro i b e hd hi c1 he
    have h0 : ¬ ((i : Int) < xs.length) := by omega
    try rw [List.drop_of_length_le (by omega : xs.length ≤ i)]
    rw [run_loop_mask (live := [1,2,7,9,10,11,13,14,15]) (h := by simp only [go_sem])]; dsimp only; rw [he]
    conv => lhs; arg 7; unfold L80_2 loopAt c80 Tryd.f80; simp only [loopIn, Option.getD_some, if_true]
    have e0 : fitB [] (fr.drop i) = true := rfl
    rw [e0]
    cases b with
    | false => simp only [go_sem, hlt]
    | true => simp only [go_sem, h0, List.length_map, hlt]
  | succ d ihd =>
    intro i b e hd hi c1 he
    have h0 : ((i : Int) < xs.length) := by omega
    have h1 : (0 : Int) ≤ i := by omega
    obtain ⟨x, hx⟩ : ∃ x, xs[i]? = some x := ⟨xs[i]'(by omega), List.getElem?_eq_getElem (by omega)⟩
    have hmem : x ∈ xs := List.mem_of_getElem? hx
    have h2 : (xs.map rowS)[i]? = some (rowS x) := by rw [map_get, hx]; rfl
    have hs : sz = 1 := hsz (by intro e; rw [e] at hx; simp at hx)
    subst hs
    have w1 : IntKind.i64.wrap (i + 1) = ((i + 1 : Nat) : Int) := by rw [wrapN] <;> omega
    try rw [drop_get hx]
    rw [run_loop_mask (live := [1,2,7,9,10,11,13,14,15]) (h := by simp only [go_sem])]; dsimp only; rw [he]
    conv => lhs; arg 7; unfold L80_2 loopAt c80 Tryd.f80; simp only [loopIn, Option.getD_some, if_true]
    cases b with
    | false => simp only [go_sem, hlt]
    | true =>
      have hfr := c1 rfl
      obtain ⟨f, hf⟩ : ∃ f, fr[i]? = some f := ⟨fr[i]'(by omega), List.getElem?_eq_getElem (by omega)⟩
      have h3 : (fr.map rowI)[i]? = some [iv f] := by rw [map_get, hf]; rfl
      have hs1 : sz1 = 1 := hsz1 (by intro e; rw [e] at hf; simp at hf)
      subst hs1
      rw [drop_get hf]
      obtain ⟨nlx, szx, ys⟩ := x
      obtain ⟨q1, q2⟩ := hset _ hmem
      have hc := spec18 nlx szx ys f q1 q2
      have h2' : (xs.map rowS)[i]? = some [.sl nlx szx (ys.map rowI)] := h2
      have e1 : ∀ (X : List (Sl Int)) (Y : List Int), fitB (⟨nlx, szx, ys⟩ :: X) (f :: Y) = (ys.contains f && fitB X Y) := fun X Y => rfl
      rw [e1, Bool.true_and]
      cases hb : ys.contains f with
      | false =>
        rw [hb] at hc
        simp only [go_sem, h0, h1, h2', h3, hc, List.length_map, hlt, w1]
        exact (ihd (i + 1) false _ (by omega) (by omega) (fun h => by cases h) rfl).trans (by simp only [go_sem])
      | true =>
        rw [hb] at hc
        simp only [go_sem, h0, h1, h2', h3, hc, List.length_map, hlt, w1]
        exact (ihd (i + 1) true _ (by omega) (by omega) (fun _ => hfr) rfl).trans (by simp only [go_sem])

theorem loop80_0 (K : Ex × S → Option (Out × List AObj)) (nl : Bool) (sz : Nat) (xs : List Rule) (hsz : xs ≠ [] → sz = 3) (hlen : xs.length ≤ 20000) (hrok : ∀ r, r ∈ xs → r.ok) (nl2 : Bool) (sz2 : Nat) (sets : List (Sl Int)) (hsz2 : sets ≠ [] → sz2 = 1) (hlen2 : sets.length < 9223372036854775808) (hset : ∀ s, s ∈ sets → setOk s) (s : Int) (ob : AObj) (hfr : ∀ r, r ∈ xs → r.sym = s → r.from_.xs.length = sets.length) (fin : List Int) (Q : Option (Out × List AObj) → Prop)
    (hK : ∀ v, IsI v fin → Q (K (.normal, ⟨[(7, v)], [ob], [], none, false⟩))) :
    ∀ (d i : Nat) (v : AV) (out : List Int) (e : Env), xs.length - i = d → i ≤ xs.length → IsI v out → out.length ≤ i → stepF s sets (xs.drop i) out = fin → maskEnv e [1,2,7,13,14,15] = [(1, .p (iv s)), (2, .p (.sl nl2 sz2 (sets.map rowS))), (7, v), (13, .p (.sl nl sz (xs.map rowR))), (14, .p (iv xs.length)), (15, .p (iv i))] →
    Q (run Tryd.prog T H 80 0 0 (.loop L80_0) ⟨e, [ob], [], none, false⟩ (blockK 0 (some [7]) K)) := by
  intro d
  induction d with
  | zero =>
    intro i v out e hd hi c1 c2 c3 he
    have h0 : ¬ ((i : Int) < xs.length) := by omega
    try rw [List.drop_of_length_le (by omega : xs.length ≤ i)]
    rw [run_loop_mask (live := [1,2,7,13,14,15]) (h := by simp only [go_sem])]; dsimp only; rw [he]
    conv => arg 1; arg 7; unfold L80_0 loopAt c80 Tryd.f80; simp only [loopIn, Option.getD_some, if_true]
    rw [List.drop_of_length_le (by omega : xs.length ≤ i)] at c3
    have e0 : out = fin := c3
    subst e0
    obtain ⟨_, _, _, _, _, hlt, _, _⟩ := c1.copy
    simp only [go_sem, h0, hlt]
    exact hK v c1
  | succ d ihd =>
    intro i v out e hd hi c1 c2 c3 he
    have h0 : ((i : Int) < xs.length) := by omega
    have h1 : (0 : Int) ≤ i := by omega
    obtain ⟨x, hx⟩ : ∃ x, xs[i]? = some x := ⟨xs[i]'(by omega), List.getElem?_eq_getElem (by omega)⟩
    have hmem : x ∈ xs := List.mem_of_getElem? hx
    have h2 : (xs.map rowR)[i]? = some (rowR x) := by rw [map_get, hx]; rfl
    have hs : sz = 3 := hsz (by intro e; rw [e] at hx; simp at hx)
    subst hs
    have w1 : IntKind.i64.wrap (i + 1) = ((i + 1 : Nat) : Int) := by rw [wrapN] <;> omega
    try rw [drop_get hx]
    rw [run_loop_mask (live := [1,2,7,13,14,15]) (h := by simp only [go_sem])]; dsimp only; rw [he]
    conv => arg 1; arg 7; unfold L80_0 loopAt c80 Tryd.f80; simp only [loopIn, Option.getD_some, if_true]
    obtain ⟨sy, ⟨nl1, sz1, fr⟩, to⟩ := x
    obtain ⟨k1, k2, k3, k4, k5⟩ := hrok _ hmem
    have k6 := hfr _ hmem
    simp only [Sl.ok] at k3 k4 k6
    have h2' : (xs.map rowR)[i]? = some [iv sy, .sl nl1 sz1 (fr.map rowI), iv to] := h2
    rw [drop_get hx] at c3
    rw [stepF] at c3
    obtain ⟨cnl, csz, chs, hcp, _, hlt, _, _⟩ := c1.copy
    have hin := fun K b bs => loop80_2 K nl2 sz2 sets hsz2 hlen2 hset s v hlt ob sy to nl1 sz1 fr k3 (.sl nl 3 (xs.map rowR)) xs.length i bs sets.length 0 b
    simp only [List.drop_zero] at hin
    cases hb : (sy == s) with
    | false =>
      simp only [hb, Bool.false_and, Bool.false_eq_true, if_false] at c3
      simp only [go_sem, h0, h1, h2', hb, hlt]
      refine (congrArg Q (hin _ _ _ _ (by omega) (by omega) (fun h => by cases h) rfl)).mpr ?_
      simp only [go_sem, hlt, w1]
      exact ihd (i + 1) v out _ (by omega) (by omega) c1 (by omega) c3 rfl
    | true =>
      have hsy : sy = s := by simpa using hb
      simp only [hb, Bool.true_and] at c3
      simp only [go_sem, h0, h1, h2', hb, hlt]
      refine (congrArg Q (hin _ _ _ _ (by omega) (by omega) (fun _ => k6 hsy) rfl)).mpr ?_
      cases hb2 : fitB sets fr with
      | false =>
        simp only [hb2, Bool.false_eq_true, if_false] at c3
        simp only [go_sem, hlt, w1]
        exact ihd (i + 1) v out _ (by omega) (by omega) c1 (by omega) c3 rfl
      | true =>
        simp only [hb2, if_true] at c3
        obtain ⟨v', hc, hv'⟩ := spec92 cnl csz out chs (by omega) to
        have hl' := insI_len out to
        obtain ⟨_, _, _, _, _, hlt', _, _⟩ := hv'.copy
        have hv0 := hv'
        obtain ⟨nn, ss, hh, hor⟩ := hv'
        rcases hor with rfl | ⟨rfl, _⟩
        · simp only [go_sem, hlt, hcp, hc, w1]
          exact ihd (i + 1) _ _ _ (by omega) (by omega) hv0 (by omega) c3 rfl
        · simp only [go_sem, hlt, hcp, hc, w1]
          exact ihd (i + 1) _ _ _ (by omega) (by omega) hv0 (by omega) c3 rfl

theorem spec80 (a : Au) (ha : a.ok) (hru : a.rules.xs.length ≤ 20000) (s : Int) (nl2 : Bool) (sz2 : Nat) (sets : List (Sl Int)) (hsz2 : sets ≠ [] → sz2 = 1) (hlen2 : sets.length < 9223372036854775808) (hset : ∀ s, s ∈ sets → setOk s)
    (hfr : ∀ r, r ∈ a.rules.xs → r.sym = s → r.from_.xs.length = sets.length) :
    ∃ v, call Tryd.prog T H (.fn 80) [.p (.agg (rowA a)), .p (iv s), .p (.sl nl2 sz2 (sets.map rowS))] [] = some (.ret v, []) ∧ IsI v (stepF s sets a.rules.xs []) := by
  obtain ⟨st, ⟨nl, sz, xs⟩, ⟨nl3, sz3, us⟩⟩ := a
  obtain ⟨k1, k2, k3, k4, k5, k6, k7⟩ := ha
  simp only [Sl.ok] at k2 k3 k4 k5 k6 k7 hru hfr
  rw [call80]
  conv => arg 1; ext v; lhs; lhs; arg 7; unfold c80 Tryd.f80; simp only [Option.getD_some]
  simp only [go_sem, rowA, slP, List.length_map]
  refine loop80_0 _ nl3 sz3 us k5 hru k7 nl2 sz2 sets hsz2 hlen2 hset s _ hfr (stepF s sets us []) (fun r => ∃ v, r = some (.ret v, []) ∧ IsI v (stepF s sets us [])) (fun v hv => ?_) us.length 0 (.p (.sl true 0 [])) [] _ (by omega) (by omega) IsI.nil (by simp) (by rw [List.drop_zero]) rfl
  refine ⟨v, ?_, hv⟩
  obtain ⟨nn, ss, hh, hor⟩ := hv
  rcases hor with rfl | ⟨rfl, _⟩
  · simp only [go_sem]
  · simp only [go_sem]


def mkS (l : List Int) : Sl Int := ⟨false, 1, l⟩
mutual
def ofT (us : List Rule) : Tr → List Int
  | .mk s _ _ ks => stepF s ((ofTs us ks).map mkS) us []
def ofTs (us : List Rule) : List Tr → List (List Int)
  | [] => []
  | k :: r => ofT us k :: ofTs us r
end
mutual
def goodT (us : List Rule) : Tr → Prop
  | .mk s _ _ ks => (∀ r, r ∈ us → r.sym = s → r.from_.xs.length = ks.length) ∧ ks.length ≤ 1000000 ∧ goodTs us ks
def goodTs (us : List Rule) : List Tr → Prop
  | [] => True
  | k :: r => goodT us k ∧ goodTs us r
end
theorem goodTs_iff (us : List Rule) : ∀ l : List Tr, goodTs us l ↔ ∀ k, k ∈ l → goodT us k
  | [] => by simp [goodTs]
  | k :: r => by simp [goodTs, goodTs_iff us r]
theorem fitB_xs : ∀ {A B : List (Sl Int)} (fr : List Int), A.map (·.xs) = B.map (·.xs) → fitB A fr = fitB B fr
  | [], [], _, _ => rfl
  | [], _ :: _, _, h => by simp at h
  | _ :: _, [], _, h => by simp at h
  | a :: A, b :: B, [], _ => rfl
  | a :: A, b :: B, f :: fr, h => by
    simp only [List.map_cons, List.cons.injEq] at h
    have := fitB_xs fr h.2
    simp only [fitB, List.zip_cons_cons, List.all_cons] at this ⊢
    rw [this, h.1]
theorem stepF_xs {s : Int} {A B : List (Sl Int)} (h : A.map (·.xs) = B.map (·.xs)) : ∀ (us : List Rule) (out : List Int), stepF s A us out = stepF s B us out
  | [], _ => rfl
  | r :: us, out => by rw [stepF, stepF, fitB_xs _ h, stepF_xs h us]
theorem ofTs_len (us : List Rule) : ∀ ks : List Tr, (ofTs us ks).length = ks.length
  | [] => rfl
  | k :: r => by rw [ofTs]; simp [ofTs_len us r]
def IsSS (v : AV) (done : List (Sl Int)) : Prop := (v = .p (.sl true 0 []) ∧ done = []) ∨ v = .own 1 (done.map rowS)
theorem stepF_len (s : Int) (A : List (Sl Int)) : ∀ (us : List Rule) (out : List Int), (stepF s A us out).length ≤ out.length + us.length
  | [], out => by rw [stepF]; simp
  | r :: us, out => by
    rw [stepF]
    have h1 := stepF_len s A us (if (r.sym == s && fitB A r.from_.xs) = true then insI out r.to else out)
    have h2 := insI_len out r.to
    simp only [List.length_cons]
    split at h1
    · rename_i hc; rw [if_pos hc]; omega
    · rename_i hc; rw [if_neg hc]; omega

theorem loop53_0 (K : Ex × S → Option (Out × List AObj)) (nl : Bool) (sz : Nat) (xs : List Tr) (hsz : xs ≠ [] → sz = 2) (hlen : xs.length ≤ 1000000) (a : Au) (ob : AObj) (hru : a.rules.xs.length ≤ 20000)
    (ih : ∀ x, x ∈ xs → ∃ v, call Tryd.prog T H (.fn 53) [.p (.agg (rowA a)), .p (.agg (rowT x))] [] = some (.ret v, []) ∧ IsI v (ofT a.rules.xs x)) (fin : List (List Int)) (Q : Option (Out × List AObj) → Prop)
    (hK : ∀ v done, IsSS v done → (∀ s, s ∈ done → setOk s) → done.map (·.xs) = fin → Q (K (.normal, ⟨[(2, .ptr 0 0), (3, .ptr 1 0), (5, v)], [.cells ((rowA a).map .p), ob], [], none, false⟩))) :
    ∀ (d i : Nat) (v : AV) (done : List (Sl Int)) (e : Env), xs.length - i = d → i ≤ xs.length → IsSS v done → (∀ s, s ∈ done → setOk s) → done.map (·.xs) ++ ofTs a.rules.xs (xs.drop i) = fin → done.length ≤ i → maskEnv e [2,3,5,9,10,11] = [(2, .ptr 0 0), (3, .ptr 1 0), (5, v), (9, .p (.sl nl sz (xs.map rowT))), (10, .p (iv xs.length)), (11, .p (iv i))] →
    Q (run Tryd.prog T H 53 0 0 (.loop L53_0) ⟨e, [.cells ((rowA a).map .p), ob], [], none, false⟩ (blockK 0 (some [2,3,5]) K)) := by
  intro d
  induction d with
  | zero =>
    intro i v done e hd hi c1 c2 c3 c4 he
    have h0 : ¬ ((i : Int) < xs.length) := by omega
    try rw [List.drop_of_length_le (by omega : xs.length ≤ i)]
    rw [run_loop_mask (live := [2,3,5,9,10,11]) (h := by simp only [go_sem])]; dsimp only; rw [he]
    conv => arg 1; arg 7; unfold L53_0 loopAt c53 Tryd.f53; simp only [loopIn, Option.getD_some, if_true]
    rw [List.drop_of_length_le (by omega : xs.length ≤ i)] at c3
    rcases c1 with ⟨rfl, rfl⟩ | rfl
    · simp only [go_sem, h0]
      exact hK _ [] (.inl ⟨rfl, rfl⟩) (by simp) (by rw [← c3]; rfl)
    · simp only [go_sem, h0]
      exact hK _ done (.inr rfl) c2 (by rw [← c3]; simp [ofTs])
  | succ d ihd =>
    intro i v done e hd hi c1 c2 c3 c4 he
    have h0 : ((i : Int) < xs.length) := by omega
    have h1 : (0 : Int) ≤ i := by omega
    obtain ⟨x, hx⟩ : ∃ x, xs[i]? = some x := ⟨xs[i]'(by omega), List.getElem?_eq_getElem (by omega)⟩
    have hmem : x ∈ xs := List.mem_of_getElem? hx
    have h2 : (xs.map rowT)[i]? = some (rowT x) := by rw [map_get, hx]; rfl
    have hs : sz = 2 := hsz (by intro e; rw [e] at hx; simp at hx)
    subst hs
    have w1 : IntKind.i64.wrap (i + 1) = ((i + 1 : Nat) : Int) := by rw [wrapN] <;> omega
    try rw [drop_get hx]
    rw [run_loop_mask (live := [2,3,5,9,10,11]) (h := by simp only [go_sem])]; dsimp only; rw [he]
    conv => arg 1; arg 7; unfold L53_0 loopAt c53 Tryd.f53; simp only [loopIn, Option.getD_some, if_true]
    rw [drop_get hx, ofTs] at c3
    obtain ⟨v', hc, hv'⟩ := ih _ hmem
    have hst := stepF_len x.sym ((ofTs a.rules.xs x.kids).map mkS) a.rules.xs []
    have hofl : (ofT a.rules.xs x).length ≤ 20000 := by
      cases x with
      | mk s nl sz ks =>
        rw [ofT]
        simp only [Tr.sym, Tr.kids, List.length_nil] at hst
        omega
    obtain ⟨s, nl', sz', ks⟩ := x
    rw [rowT_mk] at h2 hc
    have hb1 : boundOk (done.length + 1) 24 = true := bnd_ok (by omega) (by omega)
    have hb2 : boundOk 1 24 = true := rfl
    have key : ∀ nn ss, ((ofT a.rules.xs (.mk s nl' sz' ks)) ≠ [] → ss = 1) → ∀ e, maskEnv e [2, 3, 5, 9, 10, 11] = [(2, .ptr 0 0), (3, .ptr 1 0), (5, .own 1 ((done ++ [(⟨nn, ss, ofT a.rules.xs (.mk s nl' sz' ks)⟩ : Sl Int)]).map rowS)), (9, .p (.sl nl 2 (xs.map rowT))), (10, .p (iv xs.length)), (11, .p (iv (i + 1 : Nat)))] →
        Q (run Tryd.prog T H 53 0 0 (.loop L53_0) ⟨e, [.cells ((rowA a).map .p), ob], [], none, false⟩ (blockK 0 (some [2,3,5]) K)) := fun nn ss hh e he =>
      ihd (i + 1) _ (done ++ [⟨nn, ss, ofT a.rules.xs (.mk s nl' sz' ks)⟩]) e (by omega) (by omega) (.inr rfl) (fun q hq => by
        rcases List.mem_append.1 hq with h | h
        · exact c2 q h
        · simp at h; subst h; exact ⟨hh, by dsimp only; omega⟩) (by rw [← c3]; simp) (by simp; omega) he
    have kn : ∀ (D : List (Sl Int)) nn ss (q : List Int), (D ++ [(⟨nn, ss, q⟩ : Sl Int)]).map rowS = D.map rowS ++ [[.sl nn ss (q.map rowI)]] := fun D nn ss q => by simp [rowS, slP]
    obtain ⟨nn, ss, hh, hor⟩ := hv'
    unfold rowA at hc
    simp only [kn] at key
    unfold rowA at key ⊢
    rcases c1 with ⟨rfl, rfl⟩ | rfl <;> rcases hor with rfl | ⟨rfl, rfl⟩
    · simp only [go_sem, h0, h1, h2, hc, w1, hb2]
      exact key _ _ hh _ rfl
    · simp only [go_sem, h0, h1, h2, hc, w1, hb2]
      exact key _ _ hh _ rfl
    · simp only [go_sem, h0, h1, h2, hc, w1, hb1, List.length_map]
      exact key _ _ hh _ rfl
    · simp only [go_sem, h0, h1, h2, hc, w1, hb1, List.length_map]
      exact key _ _ hh _ rfl

theorem spec53 (a : Au) (ha : a.ok) (hru : a.rules.xs.length ≤ 20000) : ∀ (t : Tr), t.ok → goodT a.rules.xs t → ∃ v, call Tryd.prog T H (.fn 53) [.p (.agg (rowA a)), .p (.agg (rowT t))] [] = some (.ret v, []) ∧ IsI v (ofT a.rules.xs t) := by
  refine Tr.ind fun s nl sz ks ih hok hg => ?_
  rw [Tr.ok_mk] at hok
  obtain ⟨h64, hsz, hlen, hks⟩ := hok
  rw [goodT, goodTs_iff] at hg
  obtain ⟨g1, g2, g3⟩ := hg
  rw [call53]
  conv => arg 1; ext v; lhs; lhs; arg 7; unfold c53 Tryd.f53; simp only [Option.getD_some]
  rw [rowT_mk]
  unfold rowA
  simp only [go_sem, List.length_map]
  refine loop53_0 _ nl sz ks hsz g2 a _ hru (fun x hx => ih x hx (hks x hx) (g3 x hx)) (ofTs a.rules.xs ks) (fun r => ∃ v, r = some (.ret v, []) ∧ IsI v (ofT a.rules.xs (.mk s nl sz ks))) (fun v done hv hd hfin => ?_) ks.length 0 (.p (.sl true 0 [])) [] _ (by omega) (by omega) (.inl ⟨rfl, rfl⟩) (by simp) (by simp) (by simp) rfl
  have hxs : done.map (·.xs) = ((ofTs a.rules.xs ks).map mkS).map (·.xs) := by rw [hfin]; simp [mkS, Function.comp_def]
  have hl : done.length = ks.length := by
    have := congrArg List.length hfin
    simpa [ofTs_len] using this
  have hof : ofT a.rules.xs (.mk s nl sz ks) = stepF s done a.rules.xs [] := by rw [ofT, stepF_xs hxs]
  rw [hof]
  have hfr : ∀ r, r ∈ a.rules.xs → r.sym = s → r.from_.xs.length = done.length := fun r hr hs => by rw [hl]; exact g1 r hr hs
  unfold rowA
  rcases hv with ⟨rfl, rfl⟩ | rfl
  · obtain ⟨v, hc, hv⟩ := spec80 a ha hru s true 0 [] (by simp) (by simp) (by simp) hfr
    refine ⟨v, ?_, hv⟩
    simp only [List.map_nil] at hc
    unfold rowA at hc
    obtain ⟨nn, ss, hh, hor⟩ := hv
    rcases hor with rfl | ⟨rfl, _⟩
    · simp only [go_sem, hc]
    · simp only [go_sem, hc]
  · obtain ⟨v, hc, hv⟩ := spec80 a ha hru s false 1 done (by simp) (by omega) hd hfr
    refine ⟨v, ?_, hv⟩
    unfold rowA at hc
    obtain ⟨nn, ss, hh, hor⟩ := hv
    rcases hor with rfl | ⟨rfl, _⟩
    · simp only [go_sem, hc]
    · simp only [go_sem, hc]
theorem ofT_len (us : List Rule) (t : Tr) : (ofT us t).length ≤ us.length := by
  cases t with
  | mk s nl sz ks =>
    rw [ofT]
    have := stepF_len s ((ofTs us ks).map mkS) us []
    simpa using this
theorem goodT_of {rs : List Int} {us : List Rule} {st : Int} (hu : us.all (ruleOk rs st) = true) : ∀ t : Tr, t.size ≤ 300 → shp rs t = true → goodT us t := by
  refine Tr.ind fun s nl sz ks ih hs h => ?_
  rw [shp_mk] at h
  rw [Tr.size_mk] at hs
  have hks : ks.length ≤ sizesT ks := by
    clear ih h hs
    induction ks with
    | nil => simp
    | cons k r ih =>
      rw [sizesT]
      have : 1 ≤ k.size := by cases k; rw [Tr.size_mk]; omega
      simp only [List.length_cons]; omega
  simp only [Bool.and_eq_true] at h
  obtain ⟨⟨⟨h1, h2⟩, h3⟩, h4⟩ := h
  rw [goodT, goodTs_iff]
  refine ⟨fun r hr hsy => ?_, by omega, fun k hk => ih k hk (by have := size_mem hk; omega) ?_⟩
  · have := List.all_eq_true.1 hu r hr
    unfold ruleOk hdOk at this
    simp only [Bool.and_eq_true] at this
    have h5 := this.1.1.2
    rw [hsy] at h5
    cases hq : rs[s.toNat]? with
    | none => rw [hq] at h3; simp at h3
    | some q =>
      rw [hq] at h3 h5
      simp at h3 h5
      omega
  · have : ∀ (l : List Tr), shps rs l = true → ∀ k, k ∈ l → shp rs k = true := by
      intro l
      induction l with
      | nil => intro _ k hk; simp at hk
      | cons a r ih =>
        intro h k hk
        rw [shps, Bool.and_eq_true] at h
        rcases List.mem_cons.1 hk with rfl | hk
        · exact h.1
        · exact ih h.2 k hk
    exact this ks h4 k hk

theorem spec24 (a : Au) (ha : a.ok) (hru : a.rules.xs.length ≤ 20000) (t : Tr) (ht : t.ok) (hg : goodT a.rules.xs t) :
    call Tryd.prog T H (.fn 24) [.p (.agg (rowA a)), .p (.agg (rowT t))] [] = some (.ret (.p (bv ((ofT a.rules.xs t).any fun x => a.final.xs.contains x))), []) := by
  rw [call24]
  conv => lhs; arg 7; unfold c24 Tryd.f24; simp only [Option.getD_some]
  obtain ⟨v, hc, hv⟩ := spec53 a ha hru t ht hg
  have hol := ofT_len a.rules.xs t
  obtain ⟨k1, k2, k3, k4, k5, k6, k7⟩ := ha
  obtain ⟨nn, ss, hh, hor⟩ := hv
  have hm := spec63 nn ss (ofT a.rules.xs t) hh (by omega) a.final.nl a.final.sz a.final.xs k2 k3
  obtain ⟨s, nl', sz', ks⟩ := t
  rw [rowT_mk] at hc ⊢
  unfold rowA at hc ⊢
  unfold slP at hc ⊢
  rcases hor with rfl | ⟨rfl, rfl⟩
  · simp only [go_sem, hc, hm]
  · simp only [go_sem, hc, hm]

def okV (al : Al) (a : Au) (t : Tr) : Bool := VAu al a && VT al t
theorem okV_rules {al : Al} {a : Au} {t : Tr} (h : okV al a t = true) : a.rules.xs.length ≤ 20000 ∧ goodT a.rules.xs t := by
  unfold okV VAu VT at h
  simp only [Bool.and_eq_true, decide_eq_true_eq] at h
  exact ⟨h.1.1.1.2, goodT_of h.1.2 t h.2.1.2 h.2.2⟩

theorem spec12 (al : Al) (hal : al.ok) (a : Au) (ha : a.ok) (t : Tr) (ht : t.ok) :
    ∃ v, call Tryd.prog T H (.fn 12) [.p (.agg (rowAl al)), .p (.agg (rowA a)), .p (.agg (rowT t))] [] = some (.ret (mkTup [copyA v, .p (iv (if okV al a t = true then 0 else 1))]), []) ∧ IsI v (if okV al a t = true then ofT a.rules.xs t else []) := by
  have hc1 := spec52 al hal a ha t ht
  rw [call12]
  conv => arg 1; ext v; lhs; lhs; arg 7; unfold c12 Tryd.f12; simp only [Option.getD_some]
  cases hb : okV al a t with
  | false =>
    have hb' : (VAu al a && VT al t) = false := hb
    simp only [hb', Bool.false_eq_true, if_false] at hc1 ⊢
    refine ⟨.p (.sl true 0 []), ?_, IsI.nil⟩
    obtain ⟨s, nl', sz', ks⟩ := t
    rw [rowT_mk] at hc1 ⊢
    unfold rowAl rowA at hc1 ⊢
    simp only [go_sem, hc1]
  | true =>
    have hb' : (VAu al a && VT al t) = true := hb
    obtain ⟨r1, r2⟩ := okV_rules hb
    obtain ⟨v, hc, hv⟩ := spec53 a ha r1 t ht r2
    simp only [hb', if_true] at hc1 ⊢
    refine ⟨v, ?_, hv⟩
    obtain ⟨nn, ss, hh, hor⟩ := hv
    obtain ⟨s, nl', sz', ks⟩ := t
    rw [rowT_mk] at hc1 hc ⊢
    unfold rowAl rowA at hc1
    unfold rowA at hc
    unfold rowAl rowA
    rcases hor with rfl | ⟨rfl, rfl⟩
    · simp only [go_sem, hc1, hc]
    · simp only [go_sem, hc1, hc]

theorem spec14 (al : Al) (hal : al.ok) (a : Au) (ha : a.ok) (t : Tr) (ht : t.ok) :
    call Tryd.prog T H (.fn 14) [.p (.agg (rowAl al)), .p (.agg (rowA a)), .p (.agg (rowT t))] [] = some (.ret (.p (.tup [bv (okV al a t && (ofT a.rules.xs t).any fun x => a.final.xs.contains x), iv (if okV al a t = true then 0 else 1)])), []) := by
  rw [call14]
  conv => lhs; arg 7; unfold c14 Tryd.f14; simp only [Option.getD_some]
  have hc1 := spec52 al hal a ha t ht
  cases hb : okV al a t with
  | false =>
    have hb' : (VAu al a && VT al t) = false := hb
    simp only [hb', Bool.false_eq_true, if_false] at hc1 ⊢
    obtain ⟨s, nl', sz', ks⟩ := t
    rw [rowT_mk] at hc1 ⊢
    unfold rowAl rowA at hc1 ⊢
    simp only [go_sem, hc1]
  | true =>
    have hb' : (VAu al a && VT al t) = true := hb
    obtain ⟨r1, r2⟩ := okV_rules hb
    have hc := spec24 a ha r1 t ht r2
    simp only [hb', if_true, Bool.true_and] at hc1 ⊢
    obtain ⟨s, nl', sz', ks⟩ := t
    rw [rowT_mk] at hc1 hc ⊢
    unfold rowAl rowA at hc1
    unfold rowA at hc
    unfold rowAl rowA
    simp only [go_sem, hc1, hc]

end Go.AM.S03

namespace Go.AM.S03
open Go Go.Proofs Go.AM
set_option maxRecDepth 100000



def setAll (bs : List Bool) : List Int → List Bool
  | [] => bs
  | x :: r => setAll (bs.set x.toNat true) r
theorem setAll_len : ∀ (l : List Int) (bs : List Bool), (setAll bs l).length = bs.length
  | [], _ => rfl
  | x :: r, bs => by rw [setAll, setAll_len r]; simp

theorem loop54_0 (K : Ex × S → Option (Out × List AObj)) (nl : Bool) (sz : Nat) (xs : List Int) (hsz : xs ≠ [] → sz = 1) (hlen : xs.length < 9223372036854775808) (n : Nat) (hin : ∀ x, x ∈ xs → 0 ≤ x ∧ x < n) (ob : AObj)
     :
    ∀ (d i : Nat) (bs : List Bool) (e : Env), xs.length - i = d → i ≤ xs.length → bs.length = n → maskEnv e [3,10,11,12] = [(3, .ms 1 0 1 0 n), (10, .p (.sl nl sz (xs.map rowI))), (11, .p (iv xs.length)), (12, .p (iv i))] →
    run Tryd.prog T H 54 0 0 (.loop L54_0) ⟨e, [ob, .arr 0 1 (aB bs)], [], none, false⟩ (blockK 0 (some [3]) K) = K (.normal, ⟨[(3, .ms 1 0 1 0 n)], [ob, .arr 0 1 (aB (setAll bs (xs.drop i)))], [], none, false⟩) := by
  intro d
  induction d with
  | zero =>
    intro i bs e hd hi c1 he
    have h0 : ¬ ((i : Int) < xs.length) := by omega
    try rw [List.drop_of_length_le (by omega : xs.length ≤ i)]
    rw [run_loop_mask (live := [3,10,11,12]) (h := by simp only [go_sem])]; dsimp only; rw [he]
    conv => lhs; arg 7; unfold L54_0 loopAt c54 Tryd.f54; simp only [loopIn, Option.getD_some, if_true]
    simp only [go_sem, h0, setAll]
  | succ d ihd =>
    intro i bs e hd hi c1 he
    have h0 : ((i : Int) < xs.length) := by omega
    have h1 : (0 : Int) ≤ i := by omega
    obtain ⟨x, hx⟩ : ∃ x, xs[i]? = some x := ⟨xs[i]'(by omega), List.getElem?_eq_getElem (by omega)⟩
    have hmem : x ∈ xs := List.mem_of_getElem? hx
    have h2 : (xs.map rowI)[i]? = some ([iv x]) := by rw [map_get, hx]; rfl
    have hs : sz = 1 := hsz (by intro e; rw [e] at hx; simp at hx)
    subst hs
    have w1 : IntKind.i64.wrap (i + 1) = ((i + 1 : Nat) : Int) := by rw [wrapN] <;> omega
    try rw [drop_get hx]
    rw [run_loop_mask (live := [3,10,11,12]) (h := by simp only [go_sem])]; dsimp only; rw [he]
    conv => lhs; arg 7; unfold L54_0 loopAt c54 Tryd.f54; simp only [loopIn, Option.getD_some, if_true]
    obtain ⟨q1, q2⟩ := hin _ hmem
    have q3 : x.toNat < n := by omega
    obtain ⟨b, hb⟩ : ∃ b, bs[x.toNat]? = some b := ⟨bs[x.toNat]'(by omega), List.getElem?_eq_getElem (by omega)⟩
    have h3 := aB_get hb
    simp only [go_sem, h0, h1, h2, h3, q1, q3, w1, aB_set, setAll]
    exact ihd (i + 1) _ _ (by omega) (by omega) (by simpa using c1) rfl

theorem spec54 (a : Au) (ha : a.ok) (h0 : 0 ≤ a.states) (h3 : a.states ≤ 300) (hin : ∀ x, x ∈ a.final.xs → 0 ≤ x ∧ x < a.states) :
    call Tryd.prog T H (.fn 54) [.p (.agg (rowA a))] [] = some (.ret (.p (.sl false 1 ((setAll (List.replicate a.states.toNat false) a.final.xs).map rowB))), []) := by
  rw [call54]
  conv => lhs; arg 7; unfold c54 Tryd.f54; simp only [Option.getD_some]
  obtain ⟨st, ⟨nl, sz, xs⟩, ⟨nl3, sz3, us⟩⟩ := a
  obtain ⟨k1, k2, k3, k4, k5, k6, k7⟩ := ha
  simp only [Sl.ok] at k2 k3 k4 k5 k6 k7 h0 h3 hin
  have hb : boundOk st.toNat 1 = true := bnd_ok (by omega) (by omega)
  have hle : st ≤ st := Int.le_refl _
  have hl1 : (setAll (List.replicate st.toNat false) xs).length = st.toNat := by rw [setAll_len]; simp
  simp only [go_sem, rowA, slP, List.length_map, hb, h0, hle]
  rw [aB_rep]
  refine (loop54_0 _ nl sz xs k2 k3 st.toNat (fun x hx => by have := hin x hx; omega) _ xs.length 0 _ _ (by omega) (by omega) (by simp) rfl).trans ?_
  have hp := @pur_msB 0 [.cells [.p (iv st), .p (.sl nl sz (xs.map rowI)), .p (.sl nl3 sz3 (us.map rowR))], .arr 0 1 (aB (setAll (List.replicate st.toNat false) xs))] 4 1 0 1 st.toNat _ (by omega) rfl hl1
  simp only [go_sem, List.drop_zero, hp]

end Go.AM.S03

namespace Go.AM.S03
open Go Go.Proofs Go.AM
set_option maxRecDepth 100000



def cI : List Int → AV
  | [] => .p (.sl true 0 [])
  | x :: r => .own 1 ((x :: r).map rowI)
def aI (ls : List (List Int)) : List (List AV) := ls.map fun l => [cI l]
def slOf : List Int → Sl Int
  | [] => ⟨true, 0, []⟩
  | x :: r => ⟨false, 1, x :: r⟩
theorem slOf_xs (l : List Int) : (slOf l).xs = l := by cases l <;> rfl
theorem slOf_ok (l : List Int) : Sl.ok 1 (slOf l) := by cases l <;> simp [slOf, Sl.ok]
theorem aI_len (ls : List (List Int)) : (aI ls).length = ls.length := by simp [aI]
theorem aI_get {ls : List (List Int)} {k : Nat} {l : List Int} (h : ls[k]? = some l) : (aI ls)[k]? = some [cI l] := by unfold aI; rw [List.getElem?_map, h]; rfl
theorem aI_set (ls : List (List Int)) (k : Nat) (l : List Int) : (aI ls).set k [cI l] = aI (ls.set k l) := by unfold aI; rw [List.map_set]
theorem aI_rep (n : Nat) : List.replicate n [AV.p (.sl true 0 [])] = aI (List.replicate n []) := by unfold aI; rw [List.map_replicate]; rfl
theorem cI_pur (base : Nat) (σ : List AObj) (k : Nat) (l : List Int) : pur base σ (k + 1) (cI l) = some (slP rowI (slOf l)) := by cases l <;> rfl
theorem aI_pur (base : Nat) (σ : List AObj) (k : Nat) : ∀ ls : List (List Int), (aI ls).mapM (fun r => r.mapM (pur base σ (k + 1))) = some (ls.map fun l => rowS (slOf l))
  | [] => rfl
  | l :: ls => by
    have := aI_pur base σ k ls
    show ([cI l] :: aI ls).mapM _ = _
    rw [List.mapM_cons, this]
    have h1 : [cI l].mapM (pur base σ (k + 1)) = some [slP rowI (slOf l)] := by rw [List.mapM_cons, cI_pur]; rfl
    rw [h1]; rfl
theorem pur_msI {base : Nat} {σ : List AObj} {k id g z n : Nat} {ls : List (List Int)} (h1 : base ≤ id) (h2 : σ[id]? = some (.arr g 1 (aI ls))) (h3 : ls.length = n) : pur base σ (k + 2) (.ms id g z 0 n) = some (.sl false 1 (ls.map fun l => rowS (slOf l))) := by
  refine pur_ms h1 h2 (by rw [aI_len]; omega) ?_
  rw [List.drop_zero, List.take_of_length_le (by rw [aI_len]; omega)]
  exact aI_pur base σ k ls
def byL : List Rule → Nat → List (List Int) → List (List Int)
  | [], _, ls => ls
  | r :: us, i, ls => byL us (i + 1) (ls.set r.sym.toNat (ls.getD r.sym.toNat [] ++ [(i : Int)]))
theorem byL_len : ∀ (us : List Rule) (i : Nat) (ls : List (List Int)), (byL us i ls).length = ls.length
  | [], _, _ => rfl
  | r :: us, i, ls => by rw [byL, byL_len us]; simp

theorem loop51_0 (K : Ex × S → Option (Out × List AObj)) (nl : Bool) (sz : Nat) (xs : List Rule) (hsz : xs ≠ [] → sz = 3) (hlen : xs.length ≤ 20000) (n : Nat) (hin : ∀ r, r ∈ xs → 0 ≤ r.sym ∧ r.sym < n) (oa ob : AObj)
     :
    ∀ (d i : Nat) (ls : List (List Int)) (e : Env), xs.length - i = d → i ≤ xs.length → ls.length = n → (∀ l, l ∈ ls → l.length ≤ i) → maskEnv e [5,13,14,15] = [(5, .ms 2 0 1 0 n), (13, .p (.sl nl sz (xs.map rowR))), (14, .p (iv xs.length)), (15, .p (iv i))] →
    run Tryd.prog T H 51 0 0 (.loop L51_0) ⟨e, [oa, ob, .arr 0 1 (aI ls)], [], none, false⟩ (blockK 0 (some [5]) K) = K (.normal, ⟨[(5, .ms 2 0 1 0 n)], [oa, ob, .arr 0 1 (aI (byL (xs.drop i) i ls))], [], none, false⟩) := by
  intro d
  induction d with
  | zero =>
    intro i ls e hd hi c1 c2 he
    have h0 : ¬ ((i : Int) < xs.length) := by omega
    try rw [List.drop_of_length_le (by omega : xs.length ≤ i)]
    rw [run_loop_mask (live := [5,13,14,15]) (h := by simp only [go_sem])]; dsimp only; rw [he]
    conv => lhs; arg 7; unfold L51_0 loopAt c51 Tryd.f51; simp only [loopIn, Option.getD_some, if_true]
    simp only [go_sem, h0, byL]
  | succ d ihd =>
    intro i ls e hd hi c1 c2 he
    have h0 : ((i : Int) < xs.length) := by omega
    have h1 : (0 : Int) ≤ i := by omega
    obtain ⟨x, hx⟩ : ∃ x, xs[i]? = some x := ⟨xs[i]'(by omega), List.getElem?_eq_getElem (by omega)⟩
    have hmem : x ∈ xs := List.mem_of_getElem? hx
    have h2 : (xs.map rowR)[i]? = some (rowR x) := by rw [map_get, hx]; rfl
    have hs : sz = 3 := hsz (by intro e; rw [e] at hx; simp at hx)
    subst hs
    have w1 : IntKind.i64.wrap (i + 1) = ((i + 1 : Nat) : Int) := by rw [wrapN] <;> omega
    try rw [drop_get hx]
    rw [run_loop_mask (live := [5,13,14,15]) (h := by simp only [go_sem])]; dsimp only; rw [he]
    conv => lhs; arg 7; unfold L51_0 loopAt c51 Tryd.f51; simp only [loopIn, Option.getD_some, if_true]
    obtain ⟨q1, q2⟩ := hin _ hmem
    obtain ⟨sy, ⟨nl1, sz1, fr⟩, to⟩ := x
    simp only at q1 q2
    have h2' : (xs.map rowR)[i]? = some [iv sy, .sl nl1 sz1 (fr.map rowI), iv to] := h2
    have q3 : sy.toNat < n := by omega
    obtain ⟨l, hl⟩ : ∃ l, ls[sy.toNat]? = some l := ⟨ls[sy.toNat]'(by omega), List.getElem?_eq_getElem (by omega)⟩
    have h3 := aI_get hl
    have hlt : sy.toNat < (aI ls).length := by rw [aI_len]; omega
    have hgd : ls.getD sy.toNat [] = l := by rw [List.getD_eq_getElem?_getD, hl]; rfl
    have hll := c2 l (List.mem_of_getElem? hl)
    have hnew : ∀ l', l' ∈ ls.set sy.toNat (l ++ [(i : Int)]) → l'.length ≤ i + 1 := fun l' h' => by
      rcases List.mem_or_eq_of_mem_set h' with h | h
      · have := c2 l' h; omega
      · subst h; simp; omega
    rw [byL, hgd]
    have hset := aI_set ls sy.toNat (l ++ [(i : Int)])
    have key := fun e he => ihd (i + 1) (ls.set sy.toNat (l ++ [(i : Int)])) e (by omega) (by omega) (by simpa using c1) hnew he
    have hb1 : boundOk 1 8 = true := rfl
    cases l with
    | nil =>
      have e1 : cI ([] ++ [(i : Int)]) = .own 1 [[iv (i : Int)]] := rfl
      have e2 : cI [] = .p (.sl true 0 []) := rfl
      rw [e1] at hset
      rw [e2] at h3
      have g1 : ((aI ls).set sy.toNat [.p (.sl true 0 [])])[sy.toNat]? = some [.p (.sl true 0 [])] := List.getElem?_set_self hlt
      simp only [go_sem, h0, h1, h2', h3, q1, q3, g1, w1, hb1, List.set_set, hset]
      exact key _ rfl
    | cons y ys =>
      have e1 : cI ((y :: ys) ++ [(i : Int)]) = .own 1 ((y :: ys).map rowI ++ [[iv (i : Int)]]) := by simp [cI, rowI]
      have e2 : cI (y :: ys) = .own 1 ((y :: ys).map rowI) := rfl
      rw [e1] at hset
      rw [e2] at h3
      have g1 : ((aI ls).set sy.toNat [.p (.sl false 1 ((y :: ys).map rowI))])[sy.toNat]? = some [.p (.sl false 1 ((y :: ys).map rowI))] := List.getElem?_set_self hlt
      have hb2 : boundOk ((y :: ys).length + 1) 8 = true := bnd_ok (by omega) (by omega)
      revert h3 g1 hset hb2
      generalize hys : (y :: ys).map rowI = R
      have hR : R.length = (y :: ys).length := by rw [← hys]; simp
      rw [← hR]
      intro h3 hset g1 hb2
      simp only [go_sem, h0, h1, h2', h3, q1, q3, g1, w1, hb1, hb2, List.set_set, hset]
      exact key _ rfl

theorem spec51 (al : Al) (hal : al.ok) (hl12 : al.ranks.xs.length ≤ 12) (a : Au) (ha : a.ok) (hru : a.rules.xs.length ≤ 20000) (hin : ∀ r, r ∈ a.rules.xs → 0 ≤ r.sym ∧ r.sym < al.ranks.xs.length) :
    call Tryd.prog T H (.fn 51) [.p (.agg (rowAl al)), .p (.agg (rowA a))] [] = some (.ret (.p (.sl false 1 ((byL a.rules.xs 0 (List.replicate al.ranks.xs.length [])).map fun l => rowS (slOf l)))), []) := by
  rw [call51]
  conv => lhs; arg 7; unfold c51 Tryd.f51; simp only [Option.getD_some]
  obtain ⟨⟨nl2, sz2, rs⟩⟩ := al
  obtain ⟨st, ⟨nl, sz, xs⟩, ⟨nl3, sz3, us⟩⟩ := a
  obtain ⟨k1, k2, k3, k4, k5, k6, k7⟩ := ha
  simp only [Sl.ok] at k2 k3 k4 k5 k6 k7 hl12 hru hin
  have hb : boundOk rs.length 24 = true := bnd_ok (by omega) (by omega)
  have hle : (rs.length : Int) ≤ rs.length := Int.le_refl _
  have hp0 : (0 : Int) ≤ rs.length := by omega
  have hl1 : (byL us 0 (List.replicate rs.length [])).length = rs.length := by rw [byL_len]; simp
  simp only [go_sem, rowAl, rowA, slP, List.length_map, hb, hp0, hle]
  rw [aI_rep]
  refine (loop51_0 _ nl3 sz3 us k5 hru rs.length hin _ _ us.length 0 _ _ (by omega) (by omega) (by simp) (by simp) rfl).trans ?_
  have hp := @pur_msI 0 [.cells [.p (.sl nl2 sz2 (rs.map rowI))], .cells [.p (iv st), .p (.sl nl sz (xs.map rowI)), .p (.sl nl3 sz3 (us.map rowR))], .arr 0 1 (aI (byL us 0 (List.replicate rs.length [])))] 4 2 0 1 rs.length _ (by omega) rfl hl1
  simp only [go_sem, List.drop_zero, hp]

end Go.AM.S03

namespace Go.AM.S03
open Go Go.Proofs Go.AM
set_option maxRecDepth 100000



def slB (bs : List Bool) : PV := .sl false 1 (bs.map rowB)
def rowSB (bs : List Bool) : List PV := [slB bs]
def v7 (n : Nat) (D : List (List Bool)) : AV := .asl true 1 ([.ms 2 0 1 0 n] :: D.map fun bs => [.p (slB bs)])
def v8 : List (List Bool) → AV
  | [] => .p (.sl true 0 [])
  | b :: E => .own 1 ((b :: E).map rowSB)
theorem v8_copy (E : List (List Bool)) : ∃ nl sz, (E ≠ [] → sz = 1) ∧ copyA (v8 E) = .p (.sl nl sz (E.map rowSB)) := by
  cases E with
  | nil => exact ⟨true, 0, fun h => absurd rfl h, rfl⟩
  | cons b E => exact ⟨false, 1, fun _ => rfl, rfl⟩
theorem v8_lt (E : List (List Bool)) (n : Nat) : ltV n (v8 E) = true := by cases E <;> rfl
theorem v7_lt (n : Nat) (D : List (List Bool)) (m : Nat) (h : 2 < m) : ltV m (v7 n D) = true := by
  have : ∀ D : List (List Bool), ltR m (D.map fun bs => [AV.p (slB bs)]) = true := fun D => by
    induction D with
    | nil => rfl
    | cons b D ih => simp only [List.map_cons, ltR, ltL, ltV, ih, Bool.and_self, Bool.and_true]
  unfold v7
  simp only [ltV, ltR, ltL, this, Bool.and_true, decide_eq_true_eq]
  exact h
theorem v7_copy (n : Nat) (D : List (List Bool)) : copyA (v7 n D) = .asl false 1 ([.ms 2 0 1 0 n] :: D.map fun bs => [.p (slB bs)]) := rfl
def fitK (E : List (List Bool)) (fr : List Int) : Bool := (E.zip fr).all fun p => p.1.getD p.2.toNat false
def rootF (us : List Rule) (E : List (List Bool)) : List Int → List Bool → List Bool
  | [], bs => bs
  | i :: is, bs => rootF us E is (match us[i.toNat]? with
    | some r => if fitK E r.from_.xs = true then bs.set r.to.toNat true else bs
    | none => bs)
theorem rootF_len (us : List Rule) (E : List (List Bool)) : ∀ (is : List Int) (bs : List Bool), (rootF us E is bs).length = bs.length
  | [], _ => rfl
  | i :: is, bs => by
    rw [rootF, rootF_len us E is]
    split
    · split <;> simp
    · rfl

theorem loop50_4 (K : Ex × S → Option (Out × List AObj)) (nl : Bool) (sz : Nat) (xs : List Int) (hsz : xs ≠ [] → sz = 1) (hlen : xs.length < 9223372036854775808) (n : Nat) (D E : List (List Bool)) (hE : E.length = xs.length) (hEn : ∀ b, b ∈ E → b.length = n) (hin : ∀ x, x ∈ xs → 0 ≤ x ∧ x < n) (L : PV) (ln li : Int) (oa ob oc od : AObj) (bs : Nat) (R : Option (Out × List AObj))
    (hX : ∀ e, maskEnv e [3,7,8,46,47,48] = [(3, .ptr 0 0), (7, v7 n D), (8, v8 E), (46, .p L), (47, .p (iv ln)), (48, .p (iv li))] → K (.exit 3, ⟨e, [oa, ob, oc, od], [], none, false⟩) = R) :
    ∀ (d i : Nat)  (e : Env), xs.length - i = d → i ≤ xs.length → maskEnv e [3,7,8,14,46,47,48,58,59,60] = [(3, .ptr 0 0), (7, v7 n D), (8, v8 E), (14, .ptr 3 0), (46, .p L), (47, .p (iv ln)), (48, .p (iv li)), (58, .p (.sl nl sz (xs.map rowI))), (59, .p (iv xs.length)), (60, .p (iv i))] →
    run Tryd.prog T H 50 bs 4 (.loop L50_4) ⟨e, [oa, ob, oc, od], [], none, false⟩ (blockK 4 (some [3,7,8,14,46,47,48]) K) = if fitK (E.drop i) (xs.drop i) = true then K (.normal, ⟨[(3, .ptr 0 0), (7, v7 n D), (8, v8 E), (14, .ptr 3 0), (46, .p L), (47, .p (iv ln)), (48, .p (iv li))], [oa, ob, oc, od], [], none, false⟩) else R := by
  intro d
  induction d with
  | zero =>
    intro i  e hd hi  he
    have h0 : ¬ ((i : Int) < xs.length) := by omega
    try rw [List.drop_of_length_le (by omega : xs.length ≤ i)]
    rw [run_loop_mask (live := [3,7,8,14,46,47,48,58,59,60]) (h := by simp only [go_sem])]; dsimp only; rw [he]
    conv => lhs; arg 7; unfold L50_4 loopAt c50 Tryd.f50; simp only [loopIn, Option.getD_some, if_true]
    have e0 : fitK (E.drop i) [] = true := by unfold fitK; simp
    have q7 : ∀ m, 2 < m → ltV m (v7 n D) = true := fun m h => v7_lt n D m h
    simp only [go_sem, h0, e0, v8_lt]
  | succ d ihd =>
    intro i  e hd hi  he
    have h0 : ((i : Int) < xs.length) := by omega
    have h1 : (0 : Int) ≤ i := by omega
    obtain ⟨x, hx⟩ : ∃ x, xs[i]? = some x := ⟨xs[i]'(by omega), List.getElem?_eq_getElem (by omega)⟩
    have hmem : x ∈ xs := List.mem_of_getElem? hx
    have h2 : (xs.map rowI)[i]? = some ([iv x]) := by rw [map_get, hx]; rfl
    have hs : sz = 1 := hsz (by intro e; rw [e] at hx; simp at hx)
    subst hs
    have w1 : IntKind.i64.wrap (i + 1) = ((i + 1 : Nat) : Int) := by rw [wrapN] <;> omega
    try rw [drop_get hx]
    rw [run_loop_mask (live := [3,7,8,14,46,47,48,58,59,60]) (h := by simp only [go_sem])]; dsimp only; rw [he]
    conv => lhs; arg 7; unfold L50_4 loopAt c50 Tryd.f50; simp only [loopIn, Option.getD_some, if_true]
    obtain ⟨q1, q2⟩ := hin _ hmem
    obtain ⟨b, hb⟩ : ∃ b, E[i]? = some b := ⟨E[i]'(by omega), List.getElem?_eq_getElem (by omega)⟩
    have hbl := hEn b (List.mem_of_getElem? hb)
    have h3 : (E.map rowSB)[i]? = some [slB b] := by rw [map_get, hb]; rfl
    obtain ⟨c, hc⟩ : ∃ c, b[x.toNat]? = some c := ⟨b[x.toNat]'(by omega), List.getElem?_eq_getElem (by omega)⟩
    have h4 : (b.map rowB)[x.toNat]? = some [bv c] := by rw [map_get, hc]; rfl
    obtain ⟨n8, s8, hs8, hcp⟩ := v8_copy E
    have e8 : s8 = 1 := hs8 (by intro e; rw [e] at hb; simp at hb)
    subst e8
    have q7 : ltV 4 (v7 n D) = true := v7_lt n D 4 (by omega)
    have e1 : fitK (b :: E.drop (i + 1)) (x :: xs.drop (i + 1)) = (c && fitK (E.drop (i + 1)) (xs.drop (i + 1))) := by
      unfold fitK
      rw [List.zip_cons_cons, List.all_cons, List.getD_eq_getElem?_getD, hc]; rfl
    rw [drop_get hb, e1]
    unfold slB at h3
    cases c with
    | true =>
      simp only [go_sem, h0, h1, h2, h3, h4, q1, q7, w1, hcp, v8_lt]
      exact ihd (i + 1) _ (by omega) (by omega) rfl
    | false =>
      simp only [go_sem, h0, h1, h2, h3, h4, q1, q7, w1, hcp, v8_lt]
      exact hX _ rfl

theorem loop50_2 (K : Ex × S → Option (Out × List AObj)) (nl : Bool) (sz : Nat) (xs : List Int) (hsz : xs ≠ [] → sz = 1) (hlen : xs.length < 9223372036854775808) (n : Nat) (D E : List (List Bool)) (hEn : ∀ b, b ∈ E → b.length = n) (st : Int) (fin : PV) (nl3 : Bool) (sz3 : Nat) (us : List Rule) (hsz3 : us ≠ [] → sz3 = 3) (ob : AObj)
    (hix : ∀ x, x ∈ xs → 0 ≤ x ∧ ∃ r, us[x.toNat]? = some r ∧ r.ok ∧ E.length = r.from_.xs.length ∧ (∀ f, f ∈ r.from_.xs → 0 ≤ f ∧ f < n) ∧ 0 ≤ r.to ∧ r.to < n)
     :
    ∀ (d i : Nat) (bs : List Bool) (e : Env), xs.length - i = d → i ≤ xs.length → bs.length = n → maskEnv e [3,7,8,46,47,48] = [(3, .ptr 0 0), (7, v7 n D), (8, v8 E), (46, .p (.sl nl sz (xs.map rowI))), (47, .p (iv xs.length)), (48, .p (iv i))] →
    run Tryd.prog T H 50 0 2 (.loop L50_2) ⟨e, [.cells [.p (iv st), .p fin, .p (.sl nl3 sz3 (us.map rowR))], ob, .arr 0 1 (aB bs)], [], none, false⟩ (blockK 2 (some [7]) K) = K (.normal, ⟨[(7, v7 n D)], [.cells [.p (iv st), .p fin, .p (.sl nl3 sz3 (us.map rowR))], ob, .arr 0 1 (aB (rootF us E (xs.drop i) bs))], [], none, false⟩) := by
  intro d
  induction d with
  | zero =>
    intro i bs e hd hi c1 he
    have h0 : ¬ ((i : Int) < xs.length) := by omega
    try rw [List.drop_of_length_le (by omega : xs.length ≤ i)]
    rw [run_loop_mask (live := [3,7,8,46,47,48]) (h := by simp only [go_sem])]; dsimp only; rw [he]
    conv => lhs; arg 7; unfold L50_2 loopAt c50 Tryd.f50; simp only [loopIn, Option.getD_some, if_true]
    have q7 : ∀ m, 2 < m → ltV m (v7 n D) = true := fun m h => v7_lt n D m h
    simp only [go_sem, h0, rootF]
  | succ d ihd =>
    intro i bs e hd hi c1 he
    have h0 : ((i : Int) < xs.length) := by omega
    have h1 : (0 : Int) ≤ i := by omega
    obtain ⟨x, hx⟩ : ∃ x, xs[i]? = some x := ⟨xs[i]'(by omega), List.getElem?_eq_getElem (by omega)⟩
    have hmem : x ∈ xs := List.mem_of_getElem? hx
    have h2 : (xs.map rowI)[i]? = some ([iv x]) := by rw [map_get, hx]; rfl
    have hs : sz = 1 := hsz (by intro e; rw [e] at hx; simp at hx)
    subst hs
    have w1 : IntKind.i64.wrap (i + 1) = ((i + 1 : Nat) : Int) := by rw [wrapN] <;> omega
    try rw [drop_get hx]
    rw [run_loop_mask (live := [3,7,8,46,47,48]) (h := by simp only [go_sem])]; dsimp only; rw [he]
    conv => lhs; arg 7; unfold L50_2 loopAt c50 Tryd.f50; simp only [loopIn, Option.getD_some, if_true]
    obtain ⟨q0, r, hr, hrok, hE, hfr, hto1, hto2⟩ := hix _ hmem
    have h3 : (us.map rowR)[x.toNat]? = some (rowR r) := by rw [map_get, hr]; rfl
    have e3 : sz3 = 3 := hsz3 (by intro e; rw [e] at hr; simp at hr)
    subst e3
    obtain ⟨sy, ⟨nl1, sz1, fr⟩, to⟩ := r
    obtain ⟨k1, k2, k3, k4, k5⟩ := hrok
    simp only [Sl.ok] at k3 k4 hE hfr hto1 hto2
    have h3' : (us.map rowR)[x.toNat]? = some [iv sy, .sl nl1 sz1 (fr.map rowI), iv to] := h3
    have q3 : to.toNat < n := by omega
    have q7 : ltV 3 (v7 n D) = true := v7_lt n D 3 (by omega)
    have hro : rootF us E (x :: xs.drop (i + 1)) bs = rootF us E (xs.drop (i + 1)) (if fitK E fr = true then bs.set to.toNat true else bs) := by rw [rootF, hr]
    rw [hro]
    simp only [go_sem, h0, h1, h2, h3', q0, v8_lt, List.length_map]
    refine (loop50_4 _ nl1 sz1 fr k3 k4 n D E hE hEn hfr _ _ _ _ _ _ _ _ (run Tryd.prog T H 50 0 2 (.loop L50_2) ⟨[(3, .ptr 0 0), (7, v7 n D), (8, v8 E), (46, .p (.sl nl 1 (xs.map rowI))), (47, .p (iv xs.length)), (48, .p (iv (i + 1 : Nat)))], [.cells [.p (iv st), .p fin, .p (.sl nl3 3 (us.map rowR))], ob, .arr 0 1 (aB bs)], [], none, false⟩ (blockK 2 (some [7]) K)) (fun e he => ?_) fr.length 0 _ (by omega) (by omega) rfl).trans ?_
    · simp only [maskEnv, List.map_cons, List.map_nil, List.cons.injEq, Prod.mk.injEq, true_and, and_true] at he
      obtain ⟨g1, g2, g3, g4, g5, g6⟩ := he
      simp only [go_sem, g1, g2, g3, g4, g5, g6, w1, q7, v8_lt]
    · rw [List.drop_zero, List.drop_zero]
      cases hb : fitK E fr with
      | false =>
        simp only [Bool.false_eq_true, if_false]
        exact ihd (i + 1) bs _ (by omega) (by omega) c1 rfl
      | true =>
        simp only [if_true]
        obtain ⟨c, hc⟩ : ∃ c, bs[to.toNat]? = some c := ⟨bs[to.toNat]'(by omega), List.getElem?_eq_getElem (by omega)⟩
        have h5 := aB_get hc
        simp only [go_sem, v7_copy, h5, hto1, q3, w1, v8_lt, q7, aB_set]
        exact ihd (i + 1) _ _ (by omega) (by omega) (by simpa using c1) rfl


mutual
def rootM (us : List Rule) (bl : List (List Int)) (n : Nat) : Tr → List Bool
  | .mk s _ _ ks => rootF us (rootMs us bl n ks) (bl.getD s.toNat []) (List.replicate n false)
def rootMs (us : List Rule) (bl : List (List Int)) (n : Nat) : List Tr → List (List Bool)
  | [] => []
  | k :: r => rootM us bl n k :: rootMs us bl n r
end
mutual
def setsM (us : List Rule) (bl : List (List Int)) (n : Nat) : Tr → List (List Bool)
  | .mk s nl sz ks => rootM us bl n (.mk s nl sz ks) :: flatM us bl n ks
def flatM (us : List Rule) (bl : List (List Int)) (n : Nat) : List Tr → List (List Bool)
  | [] => []
  | k :: r => setsM us bl n k ++ flatM us bl n r
end
theorem setsM_mk (us : List Rule) (bl : List (List Int)) (n : Nat) (s : Int) (nl : Bool) (sz : Nat) (ks : List Tr) : setsM us bl n (.mk s nl sz ks) = rootM us bl n (.mk s nl sz ks) :: flatM us bl n ks := by rw [setsM]
mutual
theorem setsM_len (us : List Rule) (bl : List (List Int)) (n : Nat) : ∀ t : Tr, (setsM us bl n t).length = t.size
  | .mk s nl sz ks => by rw [setsM, Tr.size, List.length_cons, flatM_len us bl n ks]; omega
theorem flatM_len (us : List Rule) (bl : List (List Int)) (n : Nat) : ∀ l : List Tr, (flatM us bl n l).length = sizesT l
  | [] => rfl
  | k :: r => by rw [flatM, sizesT, List.length_append, setsM_len us bl n k, flatM_len us bl n r]
end
theorem rootM_len (us : List Rule) (bl : List (List Int)) (n : Nat) (t : Tr) : (rootM us bl n t).length = n := by
  cases t with
  | mk s nl sz ks => rw [rootM, rootF_len]; simp
theorem rootMs_len (us : List Rule) (bl : List (List Int)) (n : Nat) : ∀ l : List Tr, (rootMs us bl n l).length = l.length
  | [] => rfl
  | k :: r => by rw [rootMs]; simp [rootMs_len us bl n r]
theorem rootMs_mem (us : List Rule) (bl : List (List Int)) (n : Nat) : ∀ (l : List Tr) b, b ∈ rootMs us bl n l → b.length = n
  | [], b, h => by rw [rootMs] at h; simp at h
  | k :: r, b, h => by
    rw [rootMs] at h
    rcases List.mem_cons.1 h with rfl | h
    · exact rootM_len us bl n k
    · exact rootMs_mem us bl n r b h
def byP (bl : List (List Int)) : PV := .sl false 1 (bl.map fun l => rowS (slOf l))
theorem v7_app (n : Nat) (D l : List (List Bool)) : ([AV.ms 2 0 1 0 n] :: D.map fun bs => [AV.p (slB bs)]) ++ (l.map rowSB).map (·.map .p) = [AV.ms 2 0 1 0 n] :: (D ++ l).map fun bs => [AV.p (slB bs)] := by simp [rowSB]

theorem loop50_0 (K : Ex × S → Option (Out × List AObj)) (nl : Bool) (sz : Nat) (xs : List Tr) (hsz : xs ≠ [] → sz = 2) (hlen : xs.length ≤ 1000000) (a : Au) (bl : List (List Int)) (n : Nat) (ob oc : AObj)
    (ih : ∀ x, x ∈ xs → call Tryd.prog T H (.fn 50) [.p (.agg (rowA a)), .p (byP bl), .p (.agg (rowT x))] [] = some (.ret (.p (.sl false 1 ((setsM a.rules.xs bl n x).map rowSB))), [])) (finE finD : List (List Bool))
     :
    ∀ (d i : Nat) (E D : List (List Bool)) (e : Env), xs.length - i = d → i ≤ xs.length → E ++ rootMs a.rules.xs bl n (xs.drop i) = finE → D ++ flatM a.rules.xs bl n (xs.drop i) = finD → D.length + sizesT (xs.drop i) ≤ 300 → E.length ≤ i → maskEnv e [1,3,5,7,8,22,23,24] = [(1, .p (byP bl)), (3, .ptr 0 0), (5, .ptr 1 0), (7, v7 n D), (8, v8 E), (22, .p (.sl nl sz (xs.map rowT))), (23, .p (iv xs.length)), (24, .p (iv i))] →
    run Tryd.prog T H 50 0 0 (.loop L50_0) ⟨e, [.cells ((rowA a).map .p), ob, oc], [], none, false⟩ (blockK 0 (some [1,3,5,7,8]) K) = K (.normal, ⟨[(1, .p (byP bl)), (3, .ptr 0 0), (5, .ptr 1 0), (7, v7 n finD), (8, v8 finE)], [.cells ((rowA a).map .p), ob, oc], [], none, false⟩) := by
  intro d
  induction d with
  | zero =>
    intro i E D e hd hi c1 c2 c3 c4 he
    have h0 : ¬ ((i : Int) < xs.length) := by omega
    try rw [List.drop_of_length_le (by omega : xs.length ≤ i)]
    rw [run_loop_mask (live := [1,3,5,7,8,22,23,24]) (h := by simp only [go_sem])]; dsimp only; rw [he]
    conv => lhs; arg 7; unfold L50_0 loopAt c50 Tryd.f50; simp only [loopIn, Option.getD_some, if_true]
    rw [List.drop_of_length_le (by omega : xs.length ≤ i), rootMs, List.append_nil] at c1
    rw [List.drop_of_length_le (by omega : xs.length ≤ i), flatM, List.append_nil] at c2
    subst c1; subst c2
    simp only [go_sem, h0]
  | succ d ihd =>
    intro i E D e hd hi c1 c2 c3 c4 he
    have h0 : ((i : Int) < xs.length) := by omega
    have h1 : (0 : Int) ≤ i := by omega
    obtain ⟨x, hx⟩ : ∃ x, xs[i]? = some x := ⟨xs[i]'(by omega), List.getElem?_eq_getElem (by omega)⟩
    have hmem : x ∈ xs := List.mem_of_getElem? hx
    have h2 : (xs.map rowT)[i]? = some (rowT x) := by rw [map_get, hx]; rfl
    have hs : sz = 2 := hsz (by intro e; rw [e] at hx; simp at hx)
    subst hs
    have w1 : IntKind.i64.wrap (i + 1) = ((i + 1 : Nat) : Int) := by rw [wrapN] <;> omega
    try rw [drop_get hx]
    rw [run_loop_mask (live := [1,3,5,7,8,22,23,24]) (h := by simp only [go_sem])]; dsimp only; rw [he]
    conv => lhs; arg 7; unfold L50_0 loopAt c50 Tryd.f50; simp only [loopIn, Option.getD_some, if_true]
    rw [drop_get hx, rootMs] at c1
    rw [drop_get hx, flatM] at c2
    rw [drop_get hx, sizesT] at c3
    have hc := ih _ hmem
    have hsl := setsM_len a.rules.xs bl n x
    have hx1 : 1 ≤ x.size := by cases x; rw [Tr.size_mk]; omega
    obtain ⟨s, nl', sz', ks⟩ := x
    rw [setsM_mk] at hc c2 hsl
    rw [rowT_mk] at h2 hc
    generalize rootM a.rules.xs bl n (.mk s nl' sz' ks) = rt at hc c1 c2 hsl
    generalize flatM a.rules.xs bl n ks = fl at hc c1 c2 hsl
    have q7 : ∀ m, 2 < m → ltV m (v7 n (D ++ (rt :: fl))) = true := fun m h => v7_lt n _ m h
    have q73 : ltV 3 (v7 n (D ++ (rt :: fl))) = true := q7 3 (by omega)
    have hb1 : boundOk (E.length + 1) 24 = true := bnd_ok (by omega) (by omega)
    have hb2 : boundOk 1 24 = true := rfl
    have hb3 : boundOk (D.length + 1 + (fl.length + 1)) 24 = true := bnd_ok (by omega) (by simp at hsl; omega)
    have key := fun e he => ihd (i + 1) (E ++ [rt]) (D ++ (rt :: fl)) e (by omega) (by omega) (by rw [← c1]; simp) (by rw [← c2]; simp) (by simp at hsl ⊢; omega) (by simp; omega) he
    have k7 : v7 n (D ++ (rt :: fl)) = .asl true 1 ([.ms 2 0 1 0 n] :: D.map (fun bs => [.p (slB bs)]) ++ (([slB rt] :: fl.map rowSB).map (·.map .p))) := by
      have := v7_app n D (rt :: fl)
      rw [List.map_cons] at this
      show AV.asl true 1 _ = _
      rw [← this]; rfl
    have hr0 : rowSB rt = [slB rt] := rfl
    have e7 : v7 n D = .asl true 1 ([.ms 2 0 1 0 n] :: D.map fun bs => [.p (slB bs)]) := rfl
    unfold rowA at hc ⊢
    unfold rowA at key
    simp only [List.map_cons, hr0] at hc
    cases E with
    | nil =>
      have k8 : v8 ([] ++ [rt]) = .own 1 [[slB rt]] := rfl
      have e8 : v8 [] = .p (.sl true 0 []) := rfl
      rw [k8, k7] at key
      rw [k7] at q73
      simp only [List.cons_append, List.map_cons, List.map_nil, slB] at key q73 hc
      simp only [ltV, ltR] at q73
      rw [Bool.and_eq_true] at q73
      have q74 := q73.2
      rw [e8, e7]
      simp only [go_sem, slB, h0, h1, h2, hc, hb2, w1, List.length_cons, List.length_map, List.length_append, hb3, q74]
      exact key _ rfl
    | cons b E =>
      have k8 : v8 ((b :: E) ++ [rt]) = .own 1 ((b :: E).map rowSB ++ [[slB rt]]) := by simp [v8, rowSB]
      have e8 : v8 (b :: E) = .own 1 ((b :: E).map rowSB) := rfl
      rw [k8, k7] at key
      rw [k7] at q73
      rw [e8, e7]
      have hbb : boundOk (((b :: E).map rowSB).length + 1) 24 = true := by rw [List.length_map]; exact hb1
      generalize (b :: E).map rowSB = R8 at key hbb ⊢
      simp only [List.cons_append, List.map_cons, List.map_nil, slB] at key q73 hc
      simp only [ltV, ltR] at q73
      rw [Bool.and_eq_true] at q73
      have q74 := q73.2
      simp only [go_sem, slB, h0, h1, h2, hc, hbb, w1, List.length_cons, List.length_map, List.length_append, hb3, q74]
      exact key _ rfl

end Go.AM.S03

namespace Go.AM.S03
open Go Go.Proofs Go.AM
set_option maxRecDepth 100000



def nodeB (us : List Rule) (bl : List (List Int)) (n : Nat) (s : Int) (m : Nat) : Prop :=
  0 ≤ s ∧ ∃ l, bl[s.toNat]? = some l ∧ l.length < 9223372036854775808 ∧ ∀ x, x ∈ l → 0 ≤ x ∧ ∃ r, us[x.toNat]? = some r ∧ r.ok ∧ m = r.from_.xs.length ∧ (∀ f, f ∈ r.from_.xs → 0 ≤ f ∧ f < n) ∧ 0 ≤ r.to ∧ r.to < n
mutual
def goodB (us : List Rule) (bl : List (List Int)) (n : Nat) : Tr → Prop
  | .mk s _ _ ks => nodeB us bl n s ks.length ∧ goodBs us bl n ks
def goodBs (us : List Rule) (bl : List (List Int)) (n : Nat) : List Tr → Prop
  | [] => True
  | k :: r => goodB us bl n k ∧ goodBs us bl n r
end
theorem goodBs_iff (us : List Rule) (bl : List (List Int)) (n : Nat) : ∀ l : List Tr, goodBs us bl n l ↔ ∀ k, k ∈ l → goodB us bl n k
  | [] => by simp [goodBs]
  | k :: r => by simp [goodBs, goodBs_iff us bl n r]
theorem pur_sets {base : Nat} {σ : List AObj} {k n : Nat} {bs : List Bool} (h1 : base ≤ 2) (h2 : σ[2]? = some (.arr 0 1 (aB bs))) (h3 : bs.length = n) (D : List (List Bool)) : pur base σ (k + 3) (v7 n D) = some (.sl false 1 ((bs :: D).map rowSB)) := by
  have hD : ∀ D : List (List Bool), (D.map fun bs => [AV.p (slB bs)]).mapM (fun r => r.mapM (pur base σ (k + 2))) = some (D.map rowSB) := fun D => by
    induction D with
    | nil => rfl
    | cons b D ih => rw [List.map_cons, List.mapM_cons, ih]; rfl
  have h0 : [AV.ms 2 0 1 0 n].mapM (pur base σ (k + 2)) = some [slB bs] := by
    rw [List.mapM_cons, pur_msB (z := 1) h1 h2 h3]; rfl
  unfold v7
  show (match ([AV.ms 2 0 1 0 n] :: D.map fun bs => [AV.p (slB bs)]).mapM (fun r => r.mapM (pur base σ (k + 2))) with
    | some l => some (PV.sl false 1 l)
    | none => none) = _
  rw [List.mapM_cons, h0, hD]
  rfl
theorem slOf_eta (l : List Int) : slP rowI (slOf l) = .sl (slOf l).nl (slOf l).sz (l.map rowI) := by cases l <;> rfl

theorem spec50 (a : Au) (ha : a.ok) (h0 : 0 ≤ a.states) (h3 : a.states ≤ 300) (bl : List (List Int)) : ∀ (t : Tr), t.ok → t.size ≤ 300 → goodB a.rules.xs bl a.states.toNat t →
    call Tryd.prog T H (.fn 50) [.p (.agg (rowA a)), .p (byP bl), .p (.agg (rowT t))] [] = some (.ret (.p (.sl false 1 ((setsM a.rules.xs bl a.states.toNat t).map rowSB))), []) := by
  refine Tr.ind fun s nl sz ks ih hok hs hg => ?_
  rw [Tr.ok_mk] at hok
  obtain ⟨h64, hsz, hlen, hks⟩ := hok
  rw [goodB, goodBs_iff] at hg
  obtain ⟨⟨g1, l, g2, g3, g4⟩, g5⟩ := hg
  have hsize := hs
  rw [Tr.size_mk] at hs
  have hkl : ks.length ≤ 300 := by
    have : ∀ ks : List Tr, ks.length ≤ sizesT ks := by
      intro ks
      induction ks with
      | nil => simp
      | cons k r ih => rw [sizesT]; have : 1 ≤ k.size := by cases k; rw [Tr.size_mk]; omega
                       simp only [List.length_cons]; omega
    have := this ks; omega
  have hih := fun x hx => ih x hx (hks x hx) (by have := size_mem hx; omega) (g5 x hx)
  have hb1 : boundOk a.states.toNat 1 = true := bnd_ok (by omega) (by omega)
  have hb2 : boundOk 1 24 = true := rfl
  have hle : a.states ≤ a.states := Int.le_refl _
  rw [call50]
  conv => lhs; arg 7; unfold c50 Tryd.f50; simp only [Option.getD_some]
  rw [rowT_mk, setsM_mk]
  have hl0 := fun K ob oc => loop50_0 K nl sz ks hsz (by omega) a bl a.states.toNat ob oc hih (rootMs a.rules.xs bl a.states.toNat ks) (flatM a.rules.xs bl a.states.toNat ks) ks.length 0 [] []
  have e7 : v7 a.states.toNat [] = .asl true 1 [[.ms 2 0 1 0 a.states.toNat]] := rfl
  have e8 : v8 [] = .p (.sl true 0 []) := rfl
  rw [e7, e8] at hl0
  have hrep := aB_rep a.states.toNat
  have hroot : rootM a.rules.xs bl a.states.toNat (.mk s nl sz ks) = rootF a.rules.xs (rootMs a.rules.xs bl a.states.toNat ks) l (List.replicate a.states.toNat false) := by rw [rootM, List.getD_eq_getElem?_getD, g2]; rfl
  obtain ⟨st, fin, ⟨nl3, sz3, us⟩⟩ := a
  obtain ⟨k1, k2, k3, k4, k5, k6, k7⟩ := ha
  simp only at *
  have hby : (bl.map fun l => rowS (slOf l))[s.toNat]? = some [.sl (slOf l).nl (slOf l).sz (l.map rowI)] := by rw [List.getElem?_map, g2]; show some [slP rowI (slOf l)] = _; rw [slOf_eta]
  unfold rowA at hl0 ⊢
  unfold slP at hl0 ⊢
  simp only [List.map_cons, List.map_nil] at hl0
  simp only [go_sem, List.length_map, hb1, hb2, h0, hle, hrep]
  refine (hl0 _ _ _ _ (by omega) (by omega) (by simp) (by simp) (by simp; omega) (by simp) rfl).trans ?_
  simp only [go_sem, byP, hby, g1, v8_lt, List.length_map]
  refine (loop50_2 _ (slOf l).nl (slOf l).sz l (by have := slOf_ok l; intro h; exact this (by rw [slOf_xs]; exact h)) g3 st.toNat (flatM us bl st.toNat ks) (rootMs us bl st.toNat ks) (rootMs_mem us bl st.toNat ks) st _ nl3 sz3 us k5 _ (fun x hx => ?_) l.length 0 (List.replicate st.toNat false) _ (by omega) (by omega) (by simp) rfl).trans ?_
  · obtain ⟨q1, r, q2, q3, q4, q5⟩ := g4 x hx
    exact ⟨q1, r, q2, q3, by rw [rootMs_len]; exact q4, q5⟩
  · rw [List.drop_zero, ← hroot]
    have hrl := rootM_len us bl st.toNat (.mk s nl sz ks)
    generalize rootM us bl st.toNat (.mk s nl sz ks) = rt at hrl ⊢
    generalize flatM us bl st.toNat ks = D
    have hp := @pur_sets 0 [.cells [.p (iv st), .p (.sl fin.nl fin.sz (fin.xs.map rowI)), .p (.sl nl3 sz3 (us.map rowR))], .cells [.p (iv s), .p (.sl nl sz (ks.map rowT))], .arr 0 1 (aB rt)] 3 st.toNat rt (by omega) rfl hrl D
    have e9 : v7 st.toNat D = .asl true 1 ([.ms 2 0 1 0 st.toNat] :: D.map fun bs => [.p (slB bs)]) := rfl
    rw [e9] at hp ⊢
    simp only [go_sem, hp]

end Go.AM.S03

namespace Go.AM.S03
open Go Go.Proofs Go.AM
set_option maxRecDepth 100000


theorem spec56 (x : Int) (fb : List Bool) (b : Bool) (σ : List AObj) (id : Nat) (hσ : σ[id]? = some (.cells [.p (.sl false 1 (fb.map rowB))])) (h0 : 0 ≤ x) (hb : fb[x.toNat]? = some b) :
    call Tryd.prog T H (.fn 56) [.p (iv x), .ptr id 0] σ = some (.ret (.p (bv b)), σ) := by
  rw [call56]
  conv => lhs; arg 7; unfold c56 Tryd.f56; simp only [Option.getD_some]
  have h2 : (fb.map rowB)[x.toNat]? = some [bv b] := by rw [map_get, hb]; rfl
  simp only [go_sem, hσ, h0, h2, sTX]

theorem loop81c_0 (K : Ex × S → Option (Out × List AObj)) (nl : Bool) (sz : Nat) (xs : List Int) (hsz : xs ≠ [] → sz = 1) (hlen : xs.length < 9223372036854775808) (g : FuncId) (cap : List AV) (σ : List AObj) (hlt : ltL σ.length cap = true) (p : Int → Bool) (hp : ∀ x, x ∈ xs → call Tryd.prog T H (.fn g) (.p (iv x) :: cap) σ = some (.ret (.p (bv (p x))), σ)) (b : Nat)
    (hN : K (.normal, ⟨[], σ, [], none, false⟩) = some (.ret (.p (iv (-1))), σ)) (hR : ∀ e (i : Nat), get e 4 = .p (iv i) → K (.ret, ⟨e, σ, [], none, false⟩) = some (.ret (.p (iv i)), σ)) :
    ∀ (d i : Nat)  (e : Env), xs.length - i = d → i ≤ xs.length → maskEnv e [0,1,7,8] = [(0, .p (.sl nl sz (xs.map rowI))), (1, .fn g cap), (7, .p (iv xs.length)), (8, .p (iv i))] →
    run Tryd.prog T H 81 b 0 (.loop L81_0) ⟨e, σ, [], none, false⟩ (blockK 0 (some []) K) = some (.ret (.p (iv (idx p (xs.drop i) i))), σ) := by
  intro d
  induction d with
  | zero =>
    intro i  e hd hi  he
    have h0 : ¬ ((i : Int) < xs.length) := by omega
    try rw [List.drop_of_length_le (by omega : xs.length ≤ i)]
    rw [run_loop_mask (live := [0,1,7,8]) (h := by simp only [go_sem])]; dsimp only; rw [he]
    conv => lhs; arg 7; unfold L81_0 loopAt c81 Tryd.f81; simp only [loopIn, Option.getD_some, if_true]
    simp only [go_sem, h0, hN, idx]
  | succ d ihd =>
    intro i  e hd hi  he
    have h0 : ((i : Int) < xs.length) := by omega
    have h1 : (0 : Int) ≤ i := by omega
    obtain ⟨x, hx⟩ : ∃ x, xs[i]? = some x := ⟨xs[i]'(by omega), List.getElem?_eq_getElem (by omega)⟩
    have hmem : x ∈ xs := List.mem_of_getElem? hx
    have h2 : (xs.map rowI)[i]? = some ([iv x]) := by rw [map_get, hx]; rfl
    have hs : sz = 1 := hsz (by intro e; rw [e] at hx; simp at hx)
    subst hs
    have w1 : IntKind.i64.wrap (i + 1) = ((i + 1 : Nat) : Int) := by rw [wrapN] <;> omega
    try rw [drop_get hx]
    rw [run_loop_mask (live := [0,1,7,8]) (h := by simp only [go_sem])]; dsimp only; rw [he]
    conv => lhs; arg 7; unfold L81_0 loopAt c81 Tryd.f81; simp only [loopIn, Option.getD_some, if_true]
    have hc := hp x hmem
    cases hb : p x with
    | true =>
      rw [hb] at hc
      simp only [go_sem, h0, h1, h2, hc, idx, hb]
      rw [hR _ i rfl]
    | false =>
      rw [hb] at hc
      simp only [go_sem, h0, h1, h2, hc, idx, hb, w1, sTX, hlt]
      exact ihd (i + 1) _ (by omega) (by omega) rfl

theorem specC81 (nl : Bool) (sz : Nat) (xs : List Int) (hsz : xs ≠ [] → sz = 1) (hlen : xs.length < 9223372036854775808) (g : FuncId) (cap : List AV) (σ : List AObj) (hlt : ltL σ.length cap = true) (p : Int → Bool) (hp : ∀ x, x ∈ xs → call Tryd.prog T H (.fn g) (.p (iv x) :: cap) σ = some (.ret (.p (bv (p x))), σ)) :
    call Tryd.prog T H (.fn 81) [.p (.sl nl sz (xs.map rowI)), .fn g cap] σ = some (.ret (.p (iv (idx p xs 0))), σ) := by
  rw [call81]
  conv => lhs; arg 7; unfold c81 Tryd.f81; simp only [Option.getD_some]
  simp only [go_sem, List.length_map]
  exact (loop81c_0 _ nl sz xs hsz hlen g cap σ hlt p hp _ (by simp only [go_sem, sTX]) (fun e i he => by simp only [go_sem, he, sTX]) xs.length 0 _ (by omega) (by omega) rfl).trans (by simp)

theorem specC55 (nl : Bool) (sz : Nat) (xs : List Int) (hsz : xs ≠ [] → sz = 1) (hlen : xs.length < 9223372036854775808) (g : FuncId) (cap : List AV) (σ : List AObj) (hlt : ltL σ.length cap = true) (p : Int → Bool) (hp : ∀ x, x ∈ xs → call Tryd.prog T H (.fn g) (.p (iv x) :: cap) σ = some (.ret (.p (bv (p x))), σ)) :
    call Tryd.prog T H (.fn 55) [.p (.sl nl sz (xs.map rowI)), .fn g cap] σ = some (.ret (.p (bv (xs.any p))), σ) := by
  rw [call55]
  conv => lhs; arg 7; unfold c55 Tryd.f55; simp only [Option.getD_some]
  have hc := specC81 nl sz xs hsz hlen g cap σ hlt p hp
  simp only [go_sem, hc, sTX, idx_any]


def trues : List Bool → Nat → List Int
  | [], _ => []
  | b :: r, i => if b = true then (i : Int) :: trues r (i + 1) else trues r (i + 1)
theorem trues_len : ∀ (bs : List Bool) (i : Nat), (trues bs i).length ≤ bs.length
  | [], _ => by simp [trues]
  | b :: r, i => by
    rw [trues]
    have := trues_len r (i + 1)
    split
    · simp; omega
    · simp; omega
theorem cI_app (out : List Int) (x : Int) : cI (out ++ [x]) = .own 1 (out.map rowI ++ [[iv x]]) := by
  cases out with
  | nil => rfl
  | cons y r => simp [cI, rowI]

theorem loop11_0 (K : Ex × S → Option (Out × List AObj)) (nl : Bool) (sz : Nat) (xs : List Bool) (hsz : xs ≠ [] → sz = 1) (hlen : xs.length ≤ 1000000) (oa ob oc : AObj)
     :
    ∀ (d i : Nat) (out : List Int) (e : Env), xs.length - i = d → i ≤ xs.length → out.length ≤ i → maskEnv e [9,26,27,28] = [(9, cI out), (26, .p (.sl nl sz (xs.map rowB))), (27, .p (iv xs.length)), (28, .p (iv i))] →
    run Tryd.prog T H 11 0 0 (.loop L11_0) ⟨e, [oa, ob, oc], [], none, false⟩ (blockK 0 (some [9]) K) = K (.normal, ⟨[(9, cI (out ++ trues (xs.drop i) i))], [oa, ob, oc], [], none, false⟩) := by
  intro d
  induction d with
  | zero =>
    intro i out e hd hi c1 he
    have h0 : ¬ ((i : Int) < xs.length) := by omega
    try rw [List.drop_of_length_le (by omega : xs.length ≤ i)]
    rw [run_loop_mask (live := [9,26,27,28]) (h := by simp only [go_sem])]; dsimp only; rw [he]
    conv => lhs; arg 7; unfold L11_0 loopAt c11 Tryd.f11; simp only [loopIn, Option.getD_some, if_true]
    simp only [go_sem, h0, trues, List.append_nil]
  | succ d ihd =>
    intro i out e hd hi c1 he
    have h0 : ((i : Int) < xs.length) := by omega
    have h1 : (0 : Int) ≤ i := by omega
    obtain ⟨x, hx⟩ : ∃ x, xs[i]? = some x := ⟨xs[i]'(by omega), List.getElem?_eq_getElem (by omega)⟩
    have hmem : x ∈ xs := List.mem_of_getElem? hx
    have h2 : (xs.map rowB)[i]? = some ([bv x]) := by rw [map_get, hx]; rfl
    have hs : sz = 1 := hsz (by intro e; rw [e] at hx; simp at hx)
    subst hs
    have w1 : IntKind.i64.wrap (i + 1) = ((i + 1 : Nat) : Int) := by rw [wrapN] <;> omega
    try rw [drop_get hx]
    rw [run_loop_mask (live := [9,26,27,28]) (h := by simp only [go_sem])]; dsimp only; rw [he]
    conv => lhs; arg 7; unfold L11_0 loopAt c11 Tryd.f11; simp only [loopIn, Option.getD_some, if_true]
    have hlt : ∀ (o : List Int) m, ltV m (cI o) = true := fun o m => by cases o <;> rfl
    rw [trues]
    cases x with
    | false =>
      simp only [go_sem, h0, h1, h2, w1, hlt]
      exact ihd (i + 1) out _ (by omega) (by omega) (by omega) rfl
    | true =>
      have hb1 : boundOk (out.length + 1) 8 = true := bnd_ok (by omega) (by omega)
      have hb2 : boundOk 1 8 = true := rfl
      have key := fun e he => ihd (i + 1) (out ++ [(i : Int)]) e (by omega) (by omega) (by simp; omega) he
      rw [cI_app] at key
      simp only [List.append_assoc, List.cons_append, List.nil_append] at key
      cases out with
      | nil =>
        have e0 : cI [] = .p (.sl true 0 []) := rfl
        rw [e0]
        simp only [go_sem, h0, h1, h2, w1, hb2]
        exact key _ rfl
      | cons y r =>
        have e0 : cI (y :: r) = .own 1 ((y :: r).map rowI) := rfl
        rw [e0]
        have hbb : boundOk (((y :: r).map rowI).length + 1) 8 = true := by rw [List.length_map]; exact hb1
        generalize (y :: r).map rowI = R at key hbb ⊢
        simp only [go_sem, h0, h1, h2, w1, hbb]
        exact key _ rfl

end Go.AM.S03

namespace Go.AM.S03
open Go Go.Proofs Go.AM
set_option maxRecDepth 100000

def idxs (k : Nat) : List Rule → Nat → List Int
  | [], _ => []
  | r :: us, i => if r.sym.toNat = k then (i : Int) :: idxs k us (i + 1) else idxs k us (i + 1)
theorem byL_get (k : Nat) : ∀ (us : List Rule) (i : Nat) (ls : List (List Int)) (l : List Int), (∀ r, r ∈ us → r.sym.toNat < ls.length) → ls[k]? = some l → (byL us i ls)[k]? = some (l ++ idxs k us i)
  | [], i, ls, l, _, h => by rw [byL, idxs, List.append_nil]; exact h
  | r :: us, i, ls, l, hin, h => by
    rw [byL, idxs]
    have hr := hin r (by simp)
    have hin' : ∀ r', r' ∈ us → r'.sym.toNat < (ls.set r.sym.toNat (ls.getD r.sym.toNat [] ++ [(i : Int)])).length := fun r' h' => by rw [List.length_set]; exact hin r' (List.mem_cons_of_mem r h')
    by_cases e : r.sym.toNat = k
    · rw [if_pos e]
      have h2 : (ls.set r.sym.toNat (ls.getD r.sym.toNat [] ++ [(i : Int)]))[k]? = some (l ++ [(i : Int)]) := by
        rw [e] at hr ⊢
        rw [List.getElem?_set_self hr, List.getD_eq_getElem?_getD, h]; rfl
      rw [byL_get k us (i + 1) _ _ hin' h2]
      simp
    · rw [if_neg e]
      have h2 : (ls.set r.sym.toNat (ls.getD r.sym.toNat [] ++ [(i : Int)]))[k]? = some l := by rw [List.getElem?_set_ne e]; exact h
      exact byL_get k us (i + 1) _ _ hin' h2
theorem idxs_mem (k : Nat) : ∀ (us : List Rule) (i : Nat) (x : Int), x ∈ idxs k us i → ∃ j r, us[j]? = some r ∧ x = ((i + j : Nat) : Int) ∧ r.sym.toNat = k
  | [], i, x, h => by rw [idxs] at h; simp at h
  | r :: us, i, x, h => by
    rw [idxs] at h
    have hrec : x ∈ idxs k us (i + 1) → ∃ j r', (r :: us)[j]? = some r' ∧ x = ((i + j : Nat) : Int) ∧ r'.sym.toNat = k := fun h => by
      obtain ⟨j, r', h1, h2, h3⟩ := idxs_mem k us (i + 1) x h
      exact ⟨j + 1, r', by simpa using h1, by rw [h2]; congr 1; omega, h3⟩
    split at h
    · rename_i e
      rcases List.mem_cons.1 h with h | h
      · exact ⟨0, r, by simp, by rw [h]; simp, e⟩
      · exact hrec h
    · exact hrec h
theorem mem_idxs (k : Nat) : ∀ (us : List Rule) (i j : Nat) (r : Rule), us[j]? = some r → r.sym.toNat = k → ((i + j : Nat) : Int) ∈ idxs k us i
  | [], i, j, r, h, _ => by simp at h
  | q :: us, i, j, r, h, hk => by
    rw [idxs]
    cases j with
    | zero =>
      simp at h; subst h
      rw [if_pos hk]; simp
    | succ j =>
      simp at h
      have := mem_idxs k us (i + 1) j r h hk
      rw [show i + 1 + j = i + (j + 1) by omega] at this
      split
      · exact List.mem_cons_of_mem _ this
      · exact this
theorem idxs_len (k : Nat) : ∀ (us : List Rule) (i : Nat), (idxs k us i).length ≤ us.length
  | [], _ => by simp [idxs]
  | r :: us, i => by
    rw [idxs]
    have := idxs_len k us (i + 1)
    split
    · simp; omega
    · simp; omega

def blOf (rs : List Int) (us : List Rule) : List (List Int) := byL us 0 (List.replicate rs.length [])
theorem blOf_get {rs : List Int} {us : List Rule} (hin : ∀ r, r ∈ us → 0 ≤ r.sym ∧ r.sym < rs.length) {k : Nat} (hk : k < rs.length) : (blOf rs us)[k]? = some (idxs k us 0) := by
  have := byL_get k us 0 (List.replicate rs.length []) [] (fun r hr => by have := hin r hr; simp; omega) (by rw [List.getElem?_replicate, if_pos hk])
  simpa [blOf] using this

theorem ruleOk_parts {rs : List Int} {st : Int} {r : Rule} (h : ruleOk rs st r = true) : 0 ≤ r.sym ∧ r.sym < rs.length ∧ rs[r.sym.toNat]? = some (r.from_.xs.length : Int) ∧ 0 ≤ r.to ∧ r.to < st ∧ ∀ f, f ∈ r.from_.xs → 0 ≤ f ∧ f < st := by
  unfold ruleOk hdOk inSt at h
  simp only [Bool.and_eq_true, decide_eq_true_eq, List.all_eq_true] at h
  obtain ⟨⟨⟨⟨h1, h2⟩, h3⟩, h4, h5⟩, h6⟩ := h
  refine ⟨h1, h2, ?_, h4, h5, fun f hf => h6 f hf⟩
  cases hq : rs[r.sym.toNat]? with
  | none => rw [hq] at h3; simp at h3
  | some q => rw [hq] at h3; simp at h3; rw [h3]
theorem shp_parts {rs : List Int} {s : Int} {nl : Bool} {sz : Nat} {ks : List Tr} (h : shp rs (.mk s nl sz ks) = true) : 0 ≤ s ∧ s < rs.length ∧ rs[s.toNat]? = some (ks.length : Int) ∧ ∀ k, k ∈ ks → shp rs k = true := by
  rw [shp_mk] at h
  simp only [Bool.and_eq_true, decide_eq_true_eq] at h
  obtain ⟨⟨⟨h1, h2⟩, h3⟩, h4⟩ := h
  refine ⟨h1, h2, ?_, ?_⟩
  · cases hq : rs[s.toNat]? with
    | none => rw [hq] at h3; simp at h3
    | some q => rw [hq] at h3; simp at h3; rw [h3]
  · clear h1 h2 h3
    revert h4
    induction ks with
    | nil => intro _ k hk; simp at hk
    | cons a r ih =>
      intro h k hk
      rw [shps, Bool.and_eq_true] at h
      rcases List.mem_cons.1 hk with rfl | hk
      · exact h.1
      · exact ih h.2 k hk
theorem goodB_of {rs : List Int} {us : List Rule} {st : Int} (hst : 0 ≤ st) (hu : us.all (ruleOk rs st) = true) (huo : ∀ r, r ∈ us → r.ok) (hlen : us.length ≤ 20000) : ∀ t : Tr, shp rs t = true → goodB us (blOf rs us) st.toNat t := by
  have hall := fun r hr => ruleOk_parts (List.all_eq_true.1 hu r hr)
  refine Tr.ind fun s nl sz ks ih h => ?_
  obtain ⟨h1, h2, h3, h4⟩ := shp_parts h
  rw [goodB, goodBs_iff]
  refine ⟨⟨h1, idxs s.toNat us 0, blOf_get (fun r hr => ⟨(hall r hr).1, (hall r hr).2.1⟩) (by omega), by have := idxs_len s.toNat us 0; omega, fun x hx => ?_⟩, fun k hk => ih k hk (h4 k hk)⟩
  obtain ⟨j, r, hj, rfl, hk⟩ := idxs_mem s.toNat us 0 x hx
  have hm := List.mem_of_getElem? hj
  obtain ⟨p1, p2, p3, p4, p5, p6⟩ := hall r hm
  have hs : r.sym = s := by omega
  rw [hs, h3] at p3
  refine ⟨by omega, r, ?_, huo r hm, ?_, fun f hf => ?_, p4, ?_⟩
  · have : (((0 + j : Nat) : Int)).toNat = j := by simp
    rw [this]; exact hj
  · injection p3 with p3; omega
  · have := p6 f hf; omega
  · omega
theorem okV_parts {al : Al} {a : Au} {t : Tr} (h : okV al a t = true) : 0 ≤ a.states ∧ a.states ≤ 300 ∧ a.rules.xs.length ≤ 20000 ∧ al.ranks.xs.length ≤ 12 ∧ a.rules.xs.all (ruleOk al.ranks.xs a.states) = true ∧ t.size ≤ 300 ∧ shp al.ranks.xs t = true ∧ finC a.states none a.final.xs = true := by
  unfold okV VAu VT VA at h
  simp only [Bool.and_eq_true, decide_eq_true_eq] at h
  exact ⟨h.1.1.1.1.1.2, h.1.1.1.1.2, h.1.1.1.2, h.1.1.1.1.1.1.1, h.1.2, h.2.1.2, h.2.2, h.1.1.2⟩
theorem finC_in {st : Int} : ∀ (p : Option Int) (xs : List Int), finC st p xs = true → ∀ x, x ∈ xs → 0 ≤ x ∧ x < st
  | p, [], _, x, h => by simp at h
  | p, y :: r, h, x, hx => by
    rw [finC_cons, Bool.and_eq_true, Bool.and_eq_true] at h
    rcases List.mem_cons.1 hx with rfl | hx
    · have := h.1.1
      unfold inSt at this
      simpa using this
    · exact finC_in (some y) r h.2 x hx
/-- the states at the root, as the program returns them -/
def stL (al : Al) (a : Au) (t : Tr) : List Int := trues (rootM a.rules.xs (blOf al.ranks.xs a.rules.xs) a.states.toNat t) 0
end Go.AM.S03

namespace Go.AM.S03
open Go Go.Proofs Go.AM
set_option maxRecDepth 100000


theorem spec11 (al : Al) (hal : al.ok) (a : Au) (ha : a.ok) (t : Tr) (ht : t.ok) :
    call Tryd.prog T H (.fn 11) [.p (.agg (rowAl al)), .p (.agg (rowA a)), .p (.agg (rowT t))] [] = some (.ret (.p (.tup [slP rowI (slOf (if okV al a t = true then stL al a t else [])), iv (if okV al a t = true then 0 else 1)])), []) := by
  rw [call11]
  conv => lhs; arg 7; unfold c11 Tryd.f11; simp only [Option.getD_some]
  have hc1 := spec49 al hal a ha t ht
  cases hb : okV al a t with
  | false =>
    have hb' : (VAu al a && VT al t) = false := hb
    simp only [hb', Bool.false_eq_true, if_false] at hc1 ⊢
    have e0 : slP rowI (slOf []) = .sl true 0 [] := rfl
    rw [e0]
    obtain ⟨s, nl', sz', ks⟩ := t
    rw [rowT_mk] at hc1 ⊢
    unfold rowAl rowA at hc1 ⊢
    simp only [go_sem, hc1]
  | true =>
    have hb' : (VAu al a && VT al t) = true := hb
    simp only [hb', if_true] at hc1 ⊢
    obtain ⟨p1, p2, p3, p4, p5, p6, p7, p8⟩ := okV_parts hb
    have hgB := goodB_of p1 p5 ha.2.2.2.2.2.2 p3 t p7
    have hin : ∀ r, r ∈ a.rules.xs → 0 ≤ r.sym ∧ r.sym < al.ranks.xs.length := fun r hr => by have := ruleOk_parts (List.all_eq_true.1 p5 r hr); exact ⟨this.1, this.2.1⟩
    have hby := spec51 al hal p4 a ha p3 hin
    have hse := spec50 a ha p1 p2 (blOf al.ranks.xs a.rules.xs) t ht p6 hgB
    have hrl := rootM_len a.rules.xs (blOf al.ranks.xs a.rules.xs) a.states.toNat t
    have hst : stL al a t = trues (rootM a.rules.xs (blOf al.ranks.xs a.rules.xs) a.states.toNat t) 0 := rfl
    have hbyP : byP (blOf al.ranks.xs a.rules.xs) = .sl false 1 ((byL a.rules.xs 0 (List.replicate al.ranks.xs.length [])).map fun l => rowS (slOf l)) := rfl
    rw [hst]
    rw [hbyP] at hse
    obtain ⟨s, nl', sz', ks⟩ := t
    rw [setsM_mk] at hse
    rw [rowT_mk] at hc1 hse ⊢
    simp only [List.map_cons] at hse
    generalize flatM a.rules.xs (blOf al.ranks.xs a.rules.xs) a.states.toNat ks = fl at hse
    generalize rootM a.rules.xs (blOf al.ranks.xs a.rules.xs) a.states.toNat (.mk s nl' sz' ks) = rt at hse hrl ⊢
    have hrow : rowSB rt = [.sl false 1 (rt.map rowB)] := rfl
    rw [hrow] at hse
    unfold rowAl rowA at hc1 hby
    unfold rowA at hse
    unfold rowAl rowA
    have e8 : cI [] = .p (.sl true 0 []) := rfl
    have hl0 := fun K oa ob oc => loop11_0 K false 1 rt (fun _ => rfl) (by omega) oa ob oc rt.length 0 []
    rw [e8] at hl0
    simp only [go_sem, hc1, hby, hse, List.length_map]
    refine (hl0 _ _ _ _ _ (by omega) (by omega) (by simp) rfl).trans ?_
    rw [List.nil_append, List.drop_zero]
    generalize trues rt 0 = L
    cases L with
    | nil => simp only [go_sem, e8, slOf, slP]
    | cons y r =>
      have e9 : cI (y :: r) = .own 1 ((y :: r).map rowI) := rfl
      rw [e9]
      simp only [slOf, slP]
      generalize (y :: r).map rowI = R
      simp only [go_sem]


theorem slOf_eq (l : List Int) : slP rowI (slOf l) = .sl (slOf l).nl (slOf l).sz (l.map rowI) := slOf_eta l
theorem slOf_sz (l : List Int) : l ≠ [] → (slOf l).sz = 1 := fun h => by have := slOf_ok l; exact this (by rw [slOf_xs]; exact h)
theorem setAll_get : ∀ (l : List Int) (bs : List Bool) (q : Nat), (∀ x, x ∈ l → 0 ≤ x) → q < bs.length → (setAll bs l)[q]? = some (bs.getD q false || l.contains (q : Int))
  | [], bs, q, _, hq => by
    rw [setAll, List.getD_eq_getElem?_getD, List.getElem?_eq_getElem hq]; simp
  | x :: r, bs, q, h0, hq => by
    rw [setAll, setAll_get r _ q (fun y hy => h0 y (List.mem_cons_of_mem x hy)) (by simpa using hq)]
    congr 1
    have hx := h0 x (by simp)
    by_cases e : x.toNat = q
    · have e2 : x = (q : Int) := by omega
      have : (bs.set x.toNat true).getD q false = true := by
        rw [e, List.getD_eq_getElem?_getD, List.getElem?_set_self hq]; rfl
      rw [this, e2]; simp
    · have e2 : ((q : Int) == x) = false := by
        have : (q : Int) ≠ x := by omega
        simpa using this
      have : (bs.set x.toNat true).getD q false = bs.getD q false := by
        rw [List.getD_eq_getElem?_getD, List.getElem?_set_ne e, ← List.getD_eq_getElem?_getD]
      rw [this, List.contains_cons, e2, Bool.false_or]
theorem trues_mem : ∀ (bs : List Bool) (i : Nat) (x : Int), x ∈ trues bs i ↔ ∃ j, bs[j]? = some true ∧ x = ((i + j : Nat) : Int)
  | [], i, x => by simp [trues]
  | b :: r, i, x => by
    have ih := trues_mem r (i + 1) x
    rw [trues]
    have step : (∃ j, (b :: r)[j]? = some true ∧ x = ((i + j : Nat) : Int)) ↔ (b = true ∧ x = (i : Int)) ∨ ∃ j, r[j]? = some true ∧ x = ((i + 1 + j : Nat) : Int) := by
      constructor
      · rintro ⟨j, h1, h2⟩
        cases j with
        | zero => simp at h1; exact .inl ⟨h1, by simpa using h2⟩
        | succ j => simp at h1; exact .inr ⟨j, h1, by rw [h2]; congr 1; omega⟩
      · rintro (⟨h1, h2⟩ | ⟨j, h1, h2⟩)
        · exact ⟨0, by simp [h1], by simpa using h2⟩
        · exact ⟨j + 1, by simpa using h1, by rw [h2]; congr 1; omega⟩
    rw [step, ← ih]
    cases b with
    | true => simp
    | false => simp

theorem spec13 (al : Al) (hal : al.ok) (a : Au) (ha : a.ok) (t : Tr) (ht : t.ok) :
    call Tryd.prog T H (.fn 13) [.p (.agg (rowAl al)), .p (.agg (rowA a)), .p (.agg (rowT t))] [] = some (.ret (.p (.tup [bv (okV al a t && (stL al a t).any fun x => a.final.xs.contains x), iv (if okV al a t = true then 0 else 1)])), []) := by
  rw [call13]
  conv => lhs; arg 7; unfold c13 Tryd.f13; simp only [Option.getD_some]
  have hc1 := spec11 al hal a ha t ht
  cases hb : okV al a t with
  | false =>
    simp only [hb, Bool.false_eq_true, if_false] at hc1 ⊢
    obtain ⟨s, nl', sz', ks⟩ := t
    rw [rowT_mk] at hc1 ⊢
    unfold rowAl rowA at hc1 ⊢
    simp only [go_sem, hc1]
  | true =>
    simp only [hb, if_true, Bool.true_and] at hc1 ⊢
    obtain ⟨p1, p2, p3, p4, p5, p6, p7, p8⟩ := okV_parts hb
    have hfi := finC_in none a.final.xs p8
    have hfn := spec54 a ha p1 p2 hfi
    have hrl := rootM_len a.rules.xs (blOf al.ranks.xs a.rules.xs) a.states.toNat t
    have hLl : (stL al a t).length ≤ a.states.toNat := by
      have := trues_len (rootM a.rules.xs (blOf al.ranks.xs a.rules.xs) a.states.toNat t) 0
      rw [hrl] at this
      exact this
    have hLin : ∀ x, x ∈ stL al a t → 0 ≤ x ∧ x.toNat < a.states.toNat := fun x hx => by
      obtain ⟨j, h1, h2⟩ := (trues_mem _ 0 x).1 hx
      have := (List.getElem?_eq_some_iff.1 h1).1
      rw [hrl] at this
      omega
    rw [slOf_eq] at hc1
    generalize stL al a t = L at hc1 hLl hLin ⊢
    have hany : ∀ σ : List AObj, σ[3]? = some (.cells [.p (.sl false 1 ((setAll (List.replicate a.states.toNat false) a.final.xs).map rowB))]) → 4 ≤ σ.length → call Tryd.prog T H (.fn 55) [.p (.sl (slOf L).nl (slOf L).sz (L.map rowI)), .fn 56 [.ptr 3 0]] σ = some (.ret (.p (bv (L.any fun x => a.final.xs.contains x))), σ) := fun σ hσ hl => by
      refine specC55 (slOf L).nl (slOf L).sz L (slOf_sz L) (by omega) 56 [.ptr 3 0] σ ?_ _ (fun x hx => ?_)
      · simp only [ltL, ltV, Bool.and_true, decide_eq_true_eq]; omega
      · obtain ⟨q1, q2⟩ := hLin x hx
        refine spec56 x _ _ σ 3 hσ q1 ?_
        rw [setAll_get _ _ _ (fun y hy => (hfi y hy).1) (by simpa using q2)]
        congr 1
        have e1 : (List.replicate a.states.toNat false).getD x.toNat false = false := by
          rw [List.getD_eq_getElem?_getD, List.getElem?_replicate, if_pos q2]; rfl
        have e2 : ((x.toNat : Nat) : Int) = x := by omega
        rw [e1, Bool.false_or, e2]
    have hsz := slOf_sz L
    generalize (slOf L).nl = nn at hc1 hany
    generalize (slOf L).sz = ss at hc1 hany hsz
    generalize (setAll (List.replicate a.states.toNat false) a.final.xs).map rowB = FB at hfn hany
    obtain ⟨s, nl', sz', ks⟩ := t
    rw [rowT_mk] at hc1 ⊢
    unfold rowAl rowA at hc1
    unfold rowA at hfn
    unfold rowAl rowA
    have hany' := fun o1 o2 o3 => hany [o1, o2, o3, .cells [.p (.sl false 1 FB)]] rfl (by simp)
    simp only [go_sem, hc1, hfn, hany']

end Go.AM.S03

namespace Go.AM.S03
open Go Go.Proofs Go.AM
set_option maxRecDepth 100000


theorem loop45_2 (K : Ex × S → Option (Out × List AObj)) (nl : Bool) (sz : Nat) (xs : List Rule) (hsz : xs ≠ [] → sz = 3) (hlen : xs.length < 9223372036854775808) (s0 m0 : Int) (L : PV) (ln li : Int) (oa ob : AObj) (bs : Nat)
    (hR : ∀ e σ, get e 8 = .p (bv false) → K (.ret, ⟨e, σ, [], none, false⟩) = some (.ret (.p (bv false)), [])) :
    ∀ (d i : Nat)  (e : Env), xs.length - i = d → i ≤ xs.length → maskEnv e [1,2,4,13,14,15,43,44,45] = [(1, .p (iv s0)), (2, .p (iv m0)), (4, .ptr 0 0), (13, .p L), (14, .p (iv ln)), (15, .p (iv li)), (43, .p (.sl nl sz (xs.map rowR))), (44, .p (iv xs.length)), (45, .p (iv i))] →
    run Tryd.prog T H 45 bs 2 (.loop L45_2) ⟨e, [oa, ob], [], none, false⟩ (blockK 2 (some [1,2,4,13,14,15]) K) = if ((xs.drop i).all fun r => decide (r.from_.xs.length ≤ 10)) = true then K (.normal, ⟨[(1, .p (iv s0)), (2, .p (iv m0)), (4, .ptr 0 0), (13, .p L), (14, .p (iv ln)), (15, .p (iv li))], [oa, ob], [], none, false⟩) else some (.ret (.p (bv false)), []) := by
  intro d
  induction d with
  | zero =>
    intro i  e hd hi  he
    have h0 : ¬ ((i : Int) < xs.length) := by omega
    try rw [List.drop_of_length_le (by omega : xs.length ≤ i)]
    rw [run_loop_mask (live := [1,2,4,13,14,15,43,44,45]) (h := by simp only [go_sem])]; dsimp only; rw [he]
    conv => lhs; arg 7; unfold L45_2 loopAt c45 Tryd.f45; simp only [loopIn, Option.getD_some, if_true]
    simp only [go_sem, h0, List.all_nil]
  | succ d ihd =>
    intro i  e hd hi  he
    have h0 : ((i : Int) < xs.length) := by omega
    have h1 : (0 : Int) ≤ i := by omega
    obtain ⟨x, hx⟩ : ∃ x, xs[i]? = some x := ⟨xs[i]'(by omega), List.getElem?_eq_getElem (by omega)⟩
    have hmem : x ∈ xs := List.mem_of_getElem? hx
    have h2 : (xs.map rowR)[i]? = some (rowR x) := by rw [map_get, hx]; rfl
    have hs : sz = 3 := hsz (by intro e; rw [e] at hx; simp at hx)
    subst hs
    have w1 : IntKind.i64.wrap (i + 1) = ((i + 1 : Nat) : Int) := by rw [wrapN] <;> omega
    try rw [drop_get hx]
    rw [run_loop_mask (live := [1,2,4,13,14,15,43,44,45]) (h := by simp only [go_sem])]; dsimp only; rw [he]
    conv => lhs; arg 7; unfold L45_2 loopAt c45 Tryd.f45; simp only [loopIn, Option.getD_some, if_true]
    obtain ⟨sy, ⟨nl1, sz1, fr⟩, to⟩ := x
    have h2' : (xs.map rowR)[i]? = some [iv sy, .sl nl1 sz1 (fr.map rowI), iv to] := h2
    by_cases b1 : 10 < (fr.length : Int)
    · have e1 : decide (fr.length ≤ 10) = false := decide_eq_false (by omega)
      simp only [go_sem, h0, h1, h2', b1, List.length_map, List.all_cons, e1]
      rw [hR _ _ rfl]
    · have e1 : decide (fr.length ≤ 10) = true := decide_eq_true (by omega)
      simp only [go_sem, h0, h1, h2', b1, List.length_map, List.all_cons, e1, w1]
      exact ihd (i + 1) _ (by omega) (by omega) rfl

def fewA (al : Al) (s0 m0 : Int) (a : Au) : Bool :=
  !decide (m0 < (a.final.xs.length : Int)) && !decide (m0 < (a.rules.xs.length : Int)) && !(decide (s0 < a.states) && decide (a.states ≤ 300)) && (a.rules.xs.all fun r => decide (r.from_.xs.length ≤ 10)) && decide ((al.ranks.xs.length : Int) ≤ 40)
theorem spec45 (al : Al) (hal : al.ok) (s0 m0 : Int) (a : Au) (ha : a.ok) : call Tryd.prog T H (.fn 45) [.p (.agg (rowAl al)), .p (iv s0), .p (iv m0), .p (.sl false 3 [rowA a])] [] = some (.ret (.p (bv (fewA al s0 m0 a))), []) := by
  rw [call45]
  conv => lhs; arg 7; unfold c45 Tryd.f45; simp only [Option.getD_some]
  obtain ⟨⟨nl2, sz2, rs⟩⟩ := al
  obtain ⟨st, ⟨nl, sz, xs⟩, ⟨nl3, sz3, us⟩⟩ := a
  obtain ⟨k1, k2, k3, k4, k5, k6, k7⟩ := ha
  simp only [Sl.ok] at k2 k3 k4 k5 k6 k7
  have e0 : fewA ⟨⟨nl2, sz2, rs⟩⟩ s0 m0 ⟨st, ⟨nl, sz, xs⟩, ⟨nl3, sz3, us⟩⟩ = (!decide (m0 < (xs.length : Int)) && !decide (m0 < (us.length : Int)) && !(decide (s0 < st) && decide (st ≤ 300)) && (us.all fun r => decide (r.from_.xs.length ≤ 10)) && decide ((rs.length : Int) ≤ 40)) := rfl
  rw [e0]
  have b0 : ((0 : Int) < ((1 : Nat) : Int)) := by omega
  have w0 : IntKind.i64.wrap ((0 : Int) + 1) = 1 := by decide +kernel
  have w0' : IntKind.i64.wrap (1 : Int) = 1 := by decide +kernel
  have b2 : ¬ ((1 : Int) < ((1 : Nat) : Int)) := by omega
  simp only [go_sem, rowAl, rowA, slP]
  rw [run_loop_mask (live := [1,2,4,13,14,15]) (h := by simp only [go_sem])]
  by_cases c1 : m0 < (xs.length : Int)
  · simp only [go_sem, b0, c1, List.length_map]
  · by_cases c2 : m0 < (us.length : Int)
    · simp only [go_sem, b0, c1, c2, List.length_map]
    · by_cases c3 : s0 < st
      · by_cases c4 : st ≤ 300
        · simp only [go_sem, b0, c1, c2, c3, c4, List.length_map]
        · simp only [go_sem, b0, c1, c2, c3, c4, List.length_map]
          refine (loop45_2 _ nl3 sz3 us k5 k6 s0 m0 _ _ _ _ _ _ (fun e σ he => by simp only [go_sem, he]) us.length 0 _ (by omega) (by omega) rfl).trans ?_
          rw [List.drop_zero]
          cases c5 : us.all fun r => decide (r.from_.xs.length ≤ 10) with
          | false => simp only [go_sem]
          | true =>
            simp only [go_sem, w0, w0']
            rw [run_loop_mask (live := [1,2,4,13,14,15]) (h := by simp only [go_sem])]
            simp only [go_sem, b2, List.length_map]
      · simp only [go_sem, b0, c1, c2, c3, List.length_map]
        refine (loop45_2 _ nl3 sz3 us k5 k6 s0 m0 _ _ _ _ _ _ (fun e σ he => by simp only [go_sem, he]) us.length 0 _ (by omega) (by omega) rfl).trans ?_
        rw [List.drop_zero]
        cases c5 : us.all fun r => decide (r.from_.xs.length ≤ 10) with
        | false => simp only [go_sem]
        | true =>
          simp only [go_sem, w0, w0']
          rw [run_loop_mask (live := [1,2,4,13,14,15]) (h := by simp only [go_sem])]
          simp only [go_sem, b2, List.length_map]

theorem loop9_0 (K : Ex × S → Option (Out × List AObj)) (nl : Bool) (sz : Nat) (xs : List Tr) (hsz : xs ≠ [] → sz = 2) (hlen : xs.length < 9223372036854775808) (hok : ∀ t, t ∈ xs → t.ok) (oa ob : AObj)
    (hR : ∀ e σ, get e 6 = .p (bv false) → K (.ret, ⟨e, σ, [], none, false⟩) = some (.ret (.p (bv false)), [])) :
    ∀ (d i : Nat)  (e : Env), xs.length - i = d → i ≤ xs.length → maskEnv e [3,4,9,10,11] = [(3, .ptr 0 0), (4, .ptr 1 0), (9, .p (.sl nl sz (xs.map rowT))), (10, .p (iv xs.length)), (11, .p (iv i))] →
    run Tryd.prog T H 9 0 0 (.loop L9_0) ⟨e, [oa, ob], [], none, false⟩ (blockK 0 (some [3,4]) K) = if ((xs.drop i).all fun t => decide ((t.size : Int) ≤ 400)) = true then K (.normal, ⟨[(3, .ptr 0 0), (4, .ptr 1 0)], [oa, ob], [], none, false⟩) else some (.ret (.p (bv false)), []) := by
  intro d
  induction d with
  | zero =>
    intro i  e hd hi  he
    have h0 : ¬ ((i : Int) < xs.length) := by omega
    try rw [List.drop_of_length_le (by omega : xs.length ≤ i)]
    rw [run_loop_mask (live := [3,4,9,10,11]) (h := by simp only [go_sem])]; dsimp only; rw [he]
    conv => lhs; arg 7; unfold L9_0 loopAt c9 Tryd.f9; simp only [loopIn, Option.getD_some, if_true]
    simp only [go_sem, h0, List.all_nil]
  | succ d ihd =>
    intro i  e hd hi  he
    have h0 : ((i : Int) < xs.length) := by omega
    have h1 : (0 : Int) ≤ i := by omega
    obtain ⟨x, hx⟩ : ∃ x, xs[i]? = some x := ⟨xs[i]'(by omega), List.getElem?_eq_getElem (by omega)⟩
    have hmem : x ∈ xs := List.mem_of_getElem? hx
    have h2 : (xs.map rowT)[i]? = some (rowT x) := by rw [map_get, hx]; rfl
    have hs : sz = 2 := hsz (by intro e; rw [e] at hx; simp at hx)
    subst hs
    have w1 : IntKind.i64.wrap (i + 1) = ((i + 1 : Nat) : Int) := by rw [wrapN] <;> omega
    try rw [drop_get hx]
    rw [run_loop_mask (live := [3,4,9,10,11]) (h := by simp only [go_sem])]; dsimp only; rw [he]
    conv => lhs; arg 7; unfold L9_0 loopAt c9 Tryd.f9; simp only [loopIn, Option.getD_some, if_true]
    have hc := spec20 x (hok x hmem) 400 (by omega) (by omega)
    obtain ⟨s, nl', sz', ks⟩ := x
    rw [rowT_mk] at h2 hc
    cases b1 : decide (((Tr.mk s nl' sz' ks).size : Int) ≤ 400) with
    | false =>
      rw [b1] at hc
      simp only [go_sem, h0, h1, h2, hc, List.all_cons, b1]
      rw [hR _ _ rfl]
    | true =>
      rw [b1] at hc
      simp only [go_sem, h0, h1, h2, hc, List.all_cons, b1, w1]
      exact ihd (i + 1) _ (by omega) (by omega) rfl

theorem spec9 (al : Al) (hal : al.ok) (a : Au) (ha : a.ok) (nl : Bool) (sz : Nat) (xs : List Tr) (hsz : xs ≠ [] → sz = 2) (hlen : xs.length < 9223372036854775808) (hok : ∀ t, t ∈ xs → t.ok) :
    call Tryd.prog T H (.fn 9) [.p (.agg (rowAl al)), .p (.agg (rowA a)), .p (.sl nl sz (xs.map rowT))] [] = some (.ret (.p (bv ((xs.all fun t => decide ((t.size : Int) ≤ 400)) && fewA al 300 60 a))), []) := by
  rw [call9]
  conv => lhs; arg 7; unfold c9 Tryd.f9; simp only [Option.getD_some]
  have hc := spec45 al hal 300 60 a ha
  unfold rowAl rowA at hc
  simp only [go_sem, rowAl, rowA, List.length_map]
  refine (loop9_0 _ nl sz xs hsz hlen hok _ _ (fun e σ he => by simp only [go_sem, he]) xs.length 0 _ (by omega) (by omega) rfl).trans ?_
  rw [List.drop_zero]
  cases c5 : xs.all fun t => decide ((t.size : Int) ≤ 400) with
  | false => simp only [go_sem]
  | true => simp only [go_sem, hc]


def leafT : Tr := .mk 0 true 0 []
def fT (x y : Tr) : Tr := .mk 1 false 2 [x, y]
def evenA : Au := ⟨2, ⟨false, 1, [1]⟩, ⟨false, 3, [⟨0, ⟨true, 0, []⟩, 0⟩, ⟨1, ⟨false, 1, [0, 0]⟩, 1⟩, ⟨1, ⟨false, 1, [1, 1]⟩, 0⟩]⟩⟩
def al0 : Al := ⟨⟨false, 1, [0, 2]⟩⟩

theorem spec46 : call Tryd.prog T H (.fn 46) [] [] = some (.ret (.p (.agg (rowA evenA))), []) := by
  rw [call46]
  conv => lhs; arg 7; unfold c46 Tryd.f46; simp only [Option.getD_some]
  simp only [go_sem, evenA, rowA, slP, rowR, rowI]

theorem spec48 : call Tryd.prog T H (.fn 48) [] [] = some (.ret (.p (.agg (rowT leafT))), []) := by
  rw [call48]
  conv => lhs; arg 7; unfold c48 Tryd.f48; simp only [Option.getD_some]
  simp only [go_sem, leafT, rowT_mk]

theorem spec47 (x y : Tr) : call Tryd.prog T H (.fn 47) [.p (.agg (rowT x)), .p (.agg (rowT y))] [] = some (.ret (.p (.agg (rowT (fT x y)))), []) := by
  rw [call47]
  conv => lhs; arg 7; unfold c47 Tryd.f47; simp only [Option.getD_some]
  obtain ⟨s, nl', sz', ks⟩ := x
  obtain ⟨s2, nl2, sz2, ks2⟩ := y
  unfold fT
  simp only [rowT_mk, List.map_cons, List.map_nil]
  simp only [go_sem]

end Go.AM.S03

namespace Go.AM.S03
open Go Go.Proofs Go.AM
set_option maxRecDepth 100000



theorem gl0 : globOf T.gl 0 = some [.sl false 1 [[iv 0], [iv 2]]] := rfl
def t1 : Tr := fT leafT leafT
def t2 : Tr := fT leafT (fT leafT leafT)
theorem leaf_ok : leafT.ok := by
  unfold leafT
  rw [Tr.ok_mk]
  exact ⟨⟨by omega, by omega⟩, fun h => absurd rfl h, by simp, by simp⟩
theorem f_ok {x y : Tr} (hx : x.ok) (hy : y.ok) : (fT x y).ok := by
  unfold fT
  rw [Tr.ok_mk]
  refine ⟨⟨by omega, by omega⟩, fun _ => rfl, by simp, fun k hk => ?_⟩
  rcases List.mem_cons.1 hk with rfl | hk
  · exact hx
  · rcases List.mem_cons.1 hk with rfl | hk
    · exact hy
    · simp at hk
theorem al0_ok : al0.ok := by
  refine ⟨fun _ => rfl, by simp [al0], fun x hx => ?_⟩
  simp [al0] at hx
  rcases hx with rfl | rfl <;> exact ⟨by omega, by omega⟩
theorem even_ok : evenA.ok := by
  refine ⟨⟨by decide, by decide⟩, fun _ => rfl, by simp [evenA], fun x hx => ?_, fun _ => rfl, by simp [evenA], fun r hr => ?_⟩
  · simp [evenA] at hx; subst hx; exact ⟨by omega, by omega⟩
  · simp [evenA] at hr
    rcases hr with rfl | rfl | rfl
    · exact ⟨⟨by decide, by decide⟩, ⟨by decide, by decide⟩, fun h => absurd rfl h, by simp, by simp⟩
    · refine ⟨⟨by decide, by decide⟩, ⟨by decide, by decide⟩, fun _ => rfl, by simp, fun x hx => ?_⟩
      simp at hx; subst hx; exact ⟨by omega, by omega⟩
    · refine ⟨⟨by decide, by decide⟩, ⟨by decide, by decide⟩, fun _ => rfl, by simp, fun x hx => ?_⟩
      simp at hx; subst hx; exact ⟨by omega, by omega⟩

theorem spec10 : call Tryd.prog T H (.fn 10) [] [] = some (.ret (.p (bv true)), []) := by
  rw [call10]
  conv => lhs; arg 7; unfold c10 Tryd.f10; simp only [Option.getD_some]
  have h46 := spec46
  have h48 := spec48
  have h47a := spec47 leafT leafT
  have h47b := spec47 leafT t1
  have ha := spec13 al0 al0_ok evenA even_ok t1 (f_ok leaf_ok leaf_ok)
  have hb := spec13 al0 al0_ok evenA even_ok t2 (f_ok leaf_ok (f_ok leaf_ok leaf_ok))
  have e1 : (okV al0 evenA t1 && (stL al0 evenA t1).any fun x => evenA.final.xs.contains x) = true := by decide +kernel
  have e2 : okV al0 evenA t1 = true := by decide +kernel
  have e3 : (okV al0 evenA t2 && (stL al0 evenA t2).any fun x => evenA.final.xs.contains x) = false := by decide +kernel
  have e4 : okV al0 evenA t2 = true := by decide +kernel
  have e5 : fT leafT leafT = t1 := rfl
  have e6 : fT leafT t1 = t2 := rfl
  rw [e1, e2, if_pos rfl] at ha
  rw [e3, e4, if_pos rfl] at hb
  rw [e5] at h47a
  rw [e6] at h47b
  have r0 : rowAl al0 = [.sl false 1 [[iv 0], [iv 2]]] := rfl
  rw [r0] at ha hb
  generalize rowT t1 = R1 at ha h47a h47b
  generalize rowT t2 = R2 at hb h47b
  generalize rowT leafT = R0 at h48 h47a h47b
  generalize rowA evenA = E at h46 ha hb
  simp only [go_sem, gl0, h46, h48, h47a, h47b, ha, hb]

end Go.AM.S03

namespace Go.AM.S03
open Go Go.Proofs Go.AM

theorem sorted_ext : ∀ {l m : List Int}, l.Pairwise (· < ·) → m.Pairwise (· < ·) → (∀ x, x ∈ l ↔ x ∈ m) → l = m
  | [], [], _, _, _ => rfl
  | [], y :: m, _, _, h => by have := (h y).2 (by simp); simp at this
  | x :: l, [], _, _, h => by have := (h x).1 (by simp); simp at this
  | x :: l, y :: m, hl, hm, h => by
    obtain ⟨hl1, hl2⟩ := List.pairwise_cons.1 hl
    obtain ⟨hm1, hm2⟩ := List.pairwise_cons.1 hm
    have hxy : x = y := by
      have h1 := (h x).1 (by simp)
      have h2 := (h y).2 (by simp)
      rcases List.mem_cons.1 h1 with e | e
      · exact e
      · rcases List.mem_cons.1 h2 with e2 | e2
        · exact e2.symm
        · have a := hm1 x e; have b := hl1 y e2; omega
    subst hxy
    congr 1
    refine sorted_ext hl2 hm2 (fun z => ?_)
    constructor
    · intro hz
      have := (h z).1 (List.mem_cons_of_mem _ hz)
      rcases List.mem_cons.1 this with e | e
      · have := hl1 z hz; omega
      · exact e
    · intro hz
      have := (h z).2 (List.mem_cons_of_mem _ hz)
      rcases List.mem_cons.1 this with e | e
      · have := hm1 z hz; omega
      · exact e

theorem trues_sorted : ∀ (bs : List Bool) (i : Nat), (trues bs i).Pairwise (· < ·) ∧ ∀ x, x ∈ trues bs i → (i : Int) ≤ x
  | [], i => by simp [trues]
  | b :: r, i => by
    obtain ⟨h1, h2⟩ := trues_sorted r (i + 1)
    rw [trues]
    have h3 : ∀ x, x ∈ trues r (i + 1) → (i : Int) < x := fun x hx => by have := h2 x hx; omega
    split
    · refine ⟨List.pairwise_cons.2 ⟨h3, h1⟩, fun x hx => ?_⟩
      rcases List.mem_cons.1 hx with e | e
      · omega
      · have := h3 x e; omega
    · exact ⟨h1, fun x hx => by have := h3 x hx; omega⟩

theorem low_split : ∀ (xs : List Int) (n : Int), xs.Pairwise (· < ·) → (∀ x, x ∈ xs.take (lowN n xs) → x < n) ∧ (∀ x, x ∈ xs.drop (lowN n xs) → n ≤ x)
  | [], n, _ => by simp
  | y :: r, n, h => by
    obtain ⟨h1, h2⟩ := List.pairwise_cons.1 h
    obtain ⟨a, b⟩ := low_split r n h2
    rw [lowN_cons]
    split
    · rename_i hy
      refine ⟨fun x hx => ?_, fun x hx => ?_⟩
      · rw [List.take_succ_cons] at hx
        rcases List.mem_cons.1 hx with e | e
        · omega
        · exact a x e
      · rw [List.drop_succ_cons] at hx
        exact b x hx
    · rename_i hy
      refine ⟨fun x hx => by simp at hx, fun x hx => ?_⟩
      rw [List.drop_zero] at hx
      rcases List.mem_cons.1 hx with e | e
      · omega
      · have := h1 x e; omega
theorem insI_mem (xs : List Int) (n q : Int) : q ∈ insI xs n ↔ q ∈ xs ∨ q = n := by
  unfold insI
  split
  · rename_i h
    have := List.mem_of_getElem? h
    constructor
    · exact .inl
    · rintro (h | h)
      · exact h
      · subst h; exact this
  · have e : q ∈ xs ↔ q ∈ xs.take (lowN n xs) ∨ q ∈ xs.drop (lowN n xs) := by
      rw [← List.mem_append, List.take_append_drop]
    rw [e, List.mem_append, List.mem_cons]
    constructor
    · rintro (h | h | h)
      · exact .inl (.inl h)
      · exact .inr h
      · exact .inl (.inr h)
    · rintro ((h | h) | h)
      · exact .inl h
      · exact .inr (.inr h)
      · exact .inr (.inl h)
theorem insI_sorted {xs : List Int} {n : Int} (h : xs.Pairwise (· < ·)) : (insI xs n).Pairwise (· < ·) := by
  obtain ⟨a, b⟩ := low_split xs n h
  unfold insI
  split
  · exact h
  · rename_i hne
    have hd : (xs.drop (lowN n xs)).Pairwise (· < ·) := h.sublist (List.drop_sublist _ _)
    have ht : (xs.take (lowN n xs)).Pairwise (· < ·) := h.sublist (List.take_sublist _ _)
    have b' : ∀ x, x ∈ xs.drop (lowN n xs) → n < x := by
      intro x hx
      have h1 := b x hx
      rcases Int.lt_or_eq_of_le h1 with h2 | h2
      · exact h2
      · exfalso
        subst h2
        cases hc : xs.drop (lowN n xs) with
        | nil => rw [hc] at hx; simp at hx
        | cons y r =>
          have hy0 : xs[lowN n xs]? = some y := by
            have : (xs.drop (lowN n xs))[0]? = some y := by rw [hc]; rfl
            rw [List.getElem?_drop] at this
            simpa using this
          have hyn := b y (by rw [hc]; simp)
          rw [hc] at hx hd
          rcases List.mem_cons.1 hx with e | e
          · rw [← e] at hy0; exact hne hy0
          · have := (List.pairwise_cons.1 hd).1 n e; omega
    refine List.pairwise_append.2 ⟨ht, List.pairwise_cons.2 ⟨b', hd⟩, fun x hx y hy => ?_⟩
    have := a x hx
    rcases List.mem_cons.1 hy with e | e
    · omega
    · have := b' y e; omega
theorem stepF_sorted (s : Int) (A : List (Sl Int)) : ∀ (us : List Rule) (out : List Int), out.Pairwise (· < ·) → (stepF s A us out).Pairwise (· < ·)
  | [], out, h => by rw [stepF]; exact h
  | r :: us, out, h => by
    rw [stepF]
    refine stepF_sorted s A us _ ?_
    split
    · exact insI_sorted h
    · exact h
theorem stepF_mem (s : Int) (A : List (Sl Int)) (q : Int) : ∀ (us : List Rule) (out : List Int), q ∈ stepF s A us out ↔ q ∈ out ∨ ∃ r, r ∈ us ∧ r.sym = s ∧ fitB A r.from_.xs = true ∧ r.to = q
  | [], out => by rw [stepF]; simp
  | r :: us, out => by
    rw [stepF, stepF_mem s A q us]
    by_cases hc : (r.sym == s && fitB A r.from_.xs) = true
    · rw [if_pos hc, insI_mem]
      simp only [Bool.and_eq_true, beq_iff_eq] at hc
      constructor
      · rintro ((h | h) | ⟨r', h⟩)
        · exact .inl h
        · exact .inr ⟨r, by simp, hc.1, hc.2, h.symm⟩
        · exact .inr ⟨r', List.mem_cons_of_mem r h.1, h.2⟩
      · rintro (h | ⟨r', h1, h2⟩)
        · exact .inl (.inl h)
        · rcases List.mem_cons.1 h1 with e | e
          · subst e; exact .inl (.inr h2.2.2.symm)
          · exact .inr ⟨r', e, h2⟩
    · rw [if_neg hc]
      simp only [Bool.and_eq_true, beq_iff_eq] at hc
      constructor
      · rintro (h | ⟨r', h⟩)
        · exact .inl h
        · exact .inr ⟨r', List.mem_cons_of_mem r h.1, h.2⟩
      · rintro (h | ⟨r', h1, h2⟩)
        · exact .inl h
        · rcases List.mem_cons.1 h1 with e | e
          · subst e; exact absurd ⟨h2.1, h2.2.1⟩ hc
          · exact .inr ⟨r', e, h2⟩
theorem rootF_true (us : List Rule) (E : List (List Bool)) (q : Nat) : ∀ (is : List Int) (bs : List Bool), q < bs.length → ((rootF us E is bs)[q]? = some true ↔ bs[q]? = some true ∨ ∃ i r, i ∈ is ∧ us[i.toNat]? = some r ∧ fitK E r.from_.xs = true ∧ r.to.toNat = q)
  | [], bs, hq => by rw [rootF]; simp
  | i :: is, bs, hq => by
    rw [rootF]
    cases hu : us[i.toNat]? with
    | none =>
      dsimp only
      rw [rootF_true us E q is bs hq]
      constructor
      · rintro (h | ⟨j, r, h1, h2⟩)
        · exact .inl h
        · exact .inr ⟨j, r, List.mem_cons_of_mem i h1, h2⟩
      · rintro (h | ⟨j, r, h1, h2⟩)
        · exact .inl h
        · rcases List.mem_cons.1 h1 with e | e
          · subst e; rw [hu] at h2; cases h2.1
          · exact .inr ⟨j, r, e, h2⟩
    | some r0 =>
      dsimp only
      have hset : ∀ k : Nat, (bs.set k true)[q]? = some true ↔ bs[q]? = some true ∨ k = q := fun k => by
        by_cases e : k = q
        · subst e
          rw [List.getElem?_set_self hq]; simp
        · rw [List.getElem?_set_ne e]; simp [e]
      by_cases hf : fitK E r0.from_.xs = true
      · rw [if_pos hf, rootF_true us E q is _ (by simpa using hq), hset]
        constructor
        · rintro ((h | h) | ⟨j, r, h1, h2⟩)
          · exact .inl h
          · exact .inr ⟨i, r0, by simp, hu, hf, h⟩
          · exact .inr ⟨j, r, List.mem_cons_of_mem i h1, h2⟩
        · rintro (h | ⟨j, r, h1, h2, h3, h4⟩)
          · exact .inl (.inl h)
          · rcases List.mem_cons.1 h1 with e | e
            · subst e; rw [hu] at h2; injection h2 with h2; subst h2; exact .inl (.inr h4)
            · exact .inr ⟨j, r, e, h2, h3, h4⟩
      · rw [if_neg hf, rootF_true us E q is bs hq]
        constructor
        · rintro (h | ⟨j, r, h1, h2⟩)
          · exact .inl h
          · exact .inr ⟨j, r, List.mem_cons_of_mem i h1, h2⟩
        · rintro (h | ⟨j, r, h1, h2, h3, h4⟩)
          · exact .inl h
          · rcases List.mem_cons.1 h1 with e | e
            · subst e; rw [hu] at h2; injection h2 with h2; subst h2; exact absurd h3 hf
            · exact .inr ⟨j, r, e, h2, h3, h4⟩

theorem fit_same {us : List Rule} {bl : List (List Int)} {n : Nat} : ∀ (ks : List Tr) (fr : List Int), (∀ k, k ∈ ks → ∀ q : Nat, q < n → ((rootM us bl n k)[q]? = some true ↔ (q : Int) ∈ ofT us k)) → (∀ f, f ∈ fr → 0 ≤ f ∧ f < n) →
    fitK (rootMs us bl n ks) fr = fitB ((ofTs us ks).map mkS) fr
  | [], fr, _, _ => by rw [rootMs, ofTs]; rfl
  | k :: ks, [], _, _ => by rw [rootMs, ofTs]; rfl
  | k :: ks, f :: fr, h, hf => by
    have ih := fit_same ks fr (fun k' hk => h k' (List.mem_cons_of_mem k hk)) (fun f' hf' => hf f' (List.mem_cons_of_mem f hf'))
    rw [rootMs, ofTs]
    have e1 : fitK (rootM us bl n k :: rootMs us bl n ks) (f :: fr) = ((rootM us bl n k).getD f.toNat false && fitK (rootMs us bl n ks) fr) := rfl
    have e2 : fitB ((ofT us k :: ofTs us ks).map mkS) (f :: fr) = ((ofT us k).contains f && fitB ((ofTs us ks).map mkS) fr) := rfl
    rw [e1, e2, ih]
    congr 1
    obtain ⟨h0, h1⟩ := hf f (by simp)
    have hk := h k (by simp) f.toNat (by omega)
    have hfe : ((f.toNat : Nat) : Int) = f := by omega
    rw [hfe] at hk
    have hl := rootM_len us bl n k
    obtain ⟨b, hb⟩ : ∃ b, (rootM us bl n k)[f.toNat]? = some b := ⟨(rootM us bl n k)[f.toNat]'(by omega), List.getElem?_eq_getElem (by omega)⟩
    rw [List.getD_eq_getElem?_getD, hb, Option.getD_some]
    rw [hb] at hk
    cases b with
    | true => exact (List.contains_iff_mem.2 (hk.1 rfl)).symm
    | false =>
      cases hc : (ofT us k).contains f with
      | false => rfl
      | true => have := hk.2 (List.contains_iff_mem.1 hc); cases this
theorem root_same {rs : List Int} {us : List Rule} {st : Int} (hst : 0 ≤ st) (hu : us.all (ruleOk rs st) = true) : ∀ t : Tr, shp rs t = true → ∀ q : Nat, q < st.toNat → ((rootM us (blOf rs us) st.toNat t)[q]? = some true ↔ (q : Int) ∈ ofT us t) := by
  have hall := fun r hr => ruleOk_parts (List.all_eq_true.1 hu r hr)
  refine Tr.ind fun s nl sz ks ih h q hq => ?_
  obtain ⟨h1, h2, h3, h4⟩ := shp_parts h
  have hb := blOf_get (fun r hr => ⟨(hall r hr).1, (hall r hr).2.1⟩) (by omega : s.toNat < rs.length)
  rw [rootM, ofT, List.getD_eq_getElem?_getD, hb, Option.getD_some, rootF_true _ _ _ _ _ (by simpa using hq), stepF_mem]
  have hrep : ¬ (List.replicate st.toNat false)[q]? = some true := by rw [List.getElem?_replicate, if_pos hq]; simp
  have hfit : ∀ r, r ∈ us → fitK (rootMs us (blOf rs us) st.toNat ks) r.from_.xs = fitB ((ofTs us ks).map mkS) r.from_.xs := fun r hr =>
    fit_same ks r.from_.xs (fun k hk q hq => ih k hk (h4 k hk) q hq) (fun f hf => by have := (hall r hr).2.2.2.2.2 f hf; omega)
  constructor
  · rintro (h | ⟨i, r, hi, hr, hf, ht⟩)
    · exact absurd h hrep
    · have hm := List.mem_of_getElem? hr
      obtain ⟨j, r', hj, rfl, hk⟩ := idxs_mem _ _ _ _ hi
      have e : (((0 + j : Nat) : Int)).toNat = j := by simp
      rw [e, hj] at hr
      injection hr with hr; subst hr
      obtain ⟨p1, p2, p3, p4, p5, p6⟩ := hall r' hm
      exact .inr ⟨r', hm, by omega, by rw [← hfit r' hm]; exact hf, by omega⟩
  · rintro (h | ⟨r, hm, hs, hf, ht⟩)
    · simp at h
    · obtain ⟨j, hj, hjr⟩ := List.mem_iff_getElem.1 hm
      have hj' : us[j]? = some r := by rw [List.getElem?_eq_getElem hj, hjr]
      have := mem_idxs s.toNat us 0 j r hj' (by rw [hs])
      refine .inr ⟨_, r, this, ?_, by rw [hfit r hm]; exact hf, by omega⟩
      have e : (((0 + j : Nat) : Int)).toNat = j := by simp
      rw [e]; exact hj'
/-- the program's states are the reference's -/
theorem stL_eq {al : Al} {a : Au} {t : Tr} (h : okV al a t = true) : stL al a t = ofT a.rules.xs t := by
  obtain ⟨p1, p2, p3, p4, p5, p6, p7, p8⟩ := okV_parts h
  have hall := fun r hr => ruleOk_parts (List.all_eq_true.1 p5 r hr)
  have hr := root_same p1 p5 t p7
  have hl := rootM_len a.rules.xs (blOf al.ranks.xs a.rules.xs) a.states.toNat t
  have hso : (ofT a.rules.xs t).Pairwise (· < ·) := by
    cases t with
    | mk s nl sz ks => rw [ofT]; exact stepF_sorted _ _ _ _ List.Pairwise.nil
  have hin : ∀ x, x ∈ ofT a.rules.xs t → 0 ≤ x ∧ x < a.states := by
    cases t with
    | mk s nl sz ks =>
      intro x hx
      rw [ofT, stepF_mem] at hx
      rcases hx with h | ⟨r, hm, _, _, rfl⟩
      · simp at h
      · exact ⟨(hall r hm).2.2.2.1, (hall r hm).2.2.2.2.1⟩
  refine sorted_ext (trues_sorted _ _).1 hso (fun x => ?_)
  refine Iff.trans (trues_mem _ 0 x) ?_
  constructor
  · rintro ⟨j, h1, rfl⟩
    have hj := (List.getElem?_eq_some_iff.1 h1).1
    rw [Nat.zero_add]
    exact (hr j (by omega)).1 h1
  · intro hx
    obtain ⟨q1, q2⟩ := hin x hx
    have hxe : ((x.toNat : Nat) : Int) = x := by omega
    exact ⟨x.toNat, (hr x.toNat (by omega)).2 (by rw [hxe]; exact hx), by omega⟩
end Go.AM.S03

namespace Go.AM.S03
open Go Go.Proofs Go.AM
set_option maxRecDepth 100000


theorem spec3 (al : Al) (hal : al.ok) (a : Au) (ha : a.ok) (t : Tr) (ht : t.ok) :
    call Tryd.prog T H (.fn 3) [.p (.agg (rowAl al)), .p (.agg (rowA a)), .p (.agg (rowT t))] [] = some (.ret (.p (bv true)), []) := by
  rw [call3]
  conv => lhs; arg 7; unfold c3 Tryd.f3; simp only [Option.getD_some]
  have h9 := spec9 al hal a ha false 2 [t] (fun _ => rfl) (by simp) (fun x hx => by simp at hx; subst hx; exact ht)
  have h10 := spec10
  have h11 := spec11 al hal a ha t ht
  obtain ⟨v, h12, hv⟩ := spec12 al hal a ha t ht
  have h13 := spec13 al hal a ha t ht
  have h14 := spec14 al hal a ha t ht
  obtain ⟨nn, ss, hss, hcp, _⟩ := hv.copy
  rw [hcp] at h12
  simp only [mkTup, allPure] at h12
  have hL : (if okV al a t = true then stL al a t else []) = (if okV al a t = true then ofT a.rules.xs t else []) := by
    split
    · rename_i h; rw [stL_eq h]
    · rfl
  have hB : (okV al a t && (stL al a t).any fun x => a.final.xs.contains x) = (okV al a t && (ofT a.rules.xs t).any fun x => a.final.xs.contains x) := by
    cases h : okV al a t with
    | false => rfl
    | true => rw [stL_eq h]
  rw [hL, slOf_eq] at h11
  rw [hB] at h13
  have hlenL : (if okV al a t = true then ofT a.rules.xs t else []).length < 9223372036854775808 := by
    split
    · have h1 := ofT_len a.rules.xs t
      have h2 := ha.2.2.2.2.2.1
      omega
    · simp
  have h15 := spec15 (slOf (if okV al a t = true then ofT a.rules.xs t else [])).nl (slOf (if okV al a t = true then ofT a.rules.xs t else [])).sz (if okV al a t = true then ofT a.rules.xs t else []) (slOf_sz _) hlenL nn ss (if okV al a t = true then ofT a.rules.xs t else []) hss
  rw [decide_eq_true rfl] at h15
  simp only [List.map_cons, List.map_nil] at h9
  generalize (([t].all fun t => decide ((t.size : Int) ≤ 400)) && fewA al 300 60 a) = fw at h9
  generalize (okV al a t && (ofT a.rules.xs t).any fun x => a.final.xs.contains x) = bb at h13 h14
  generalize (if okV al a t = true then (0 : Int) else 1) = ee at h11 h12 h13 h14
  generalize slOf (if okV al a t = true then ofT a.rules.xs t else []) = q at h11 h15
  generalize (if okV al a t = true then ofT a.rules.xs t else []).map rowI = LR at h11 h12 h15
  obtain ⟨s, nl', sz', ks⟩ := t
  rw [rowT_mk] at h9 h11 h12 h13 h14 ⊢
  unfold rowAl rowA at h9 h11 h12 h13 h14
  unfold rowAl rowA
  cases fw with
  | false => simp only [go_sem, h9, h10]
  | true =>
    simp only [go_sem, h9, h11, h12, h13, h14, h15, h10]

end Go.AM.S03

namespace Go.AM.S03
open Go Go.Proofs Go.AM

theorem d3 : (T.at 3).d = .int .i64 := rfl
theorem sz3 : (T.at 3).size = 1 := rfl
theorem d22 : (T.at 22).d = .sl 3 := rfl
theorem d24 : (T.at 24).d = .st [(0, 22)] := rfl
theorem d25 : (T.at 25).d = .sl 83 := rfl
theorem d27 : (T.at 27).d = .st [(0, 3), (1, 22), (2, 25)] := rfl
theorem d28 : (T.at 28).d = .sl 30 := rfl
theorem d30 : (T.at 30).d = .st [(0, 3), (1, 28)] := rfl
theorem d83 : (T.at 83).d = .st [(0, 3), (1, 22), (2, 3)] := rfl

theorem len1 {α : Type} {l : List α} (h : l.length = 1) : ∃ a, l = [a] := by
  match l, h with
  | [a], _ => exact ⟨a, rfl⟩
theorem len2 {α : Type} {l : List α} (h : l.length = 2) : ∃ a b, l = [a, b] := by
  match l, h with
  | [a, b], _ => exact ⟨a, b, rfl⟩
theorem len3 {α : Type} {l : List α} (h : l.length = 3) : ∃ a b c, l = [a, b, c] := by
  match l, h with
  | [a, b, c], _ => exact ⟨a, b, c, rfl⟩

theorem wt24 {n : Nat} {cs : List PV} (h : wt T n 24 cs) : ∃ al : Al, cs = rowAl al ∧ al.ok := by
  obtain ⟨m, _, h1, h2⟩ := wt_st d24 h
  obtain ⟨c, rfl⟩ := len1 (h1 : cs.length = 1)
  have h3 := h2 (0, 22) (by simp)
  obtain ⟨s, e, h4, h5, h6⟩ := wt_slI d22 d3 sz3 (h3 : wt T m 22 [c])
  injection e with e _; subst e
  exact ⟨⟨s⟩, rfl, h4, h5, h6⟩
theorem wt83 {n : Nat} {cs : List PV} (h : wt T n 83 cs) : ∃ r : Rule, cs = rowR r ∧ r.ok := by
  obtain ⟨m, _, h1, h2⟩ := wt_st d83 h
  obtain ⟨c0, c1, c2, rfl⟩ := len3 (h1 : cs.length = 3)
  obtain ⟨x, e0, k0⟩ := wt_int d3 (h2 (0, 3) (by simp) : wt T m 3 [c0])
  obtain ⟨s, e1, k1, k2, k3⟩ := wt_slI d22 d3 sz3 (h2 (1, 22) (by simp) : wt T m 22 [c1])
  obtain ⟨y, e2, k4⟩ := wt_int d3 (h2 (2, 3) (by simp) : wt T m 3 [c2])
  injection e0 with e0 _; injection e1 with e1 _; injection e2 with e2 _
  subst e0; subst e1; subst e2
  exact ⟨⟨x, s, y⟩, rfl, k0, k4, k1, k2, k3⟩
theorem maxLen_lt : maxLen < 9223372036854775808 := by decide
theorem wt27 {n : Nat} {cs : List PV} (h : wt T n 27 cs) : ∃ a : Au, cs = rowA a ∧ a.ok := by
  obtain ⟨m, _, h1, h2⟩ := wt_st d27 h
  obtain ⟨c0, c1, c2, rfl⟩ := len3 (h1 : cs.length = 3)
  obtain ⟨x, e0, k0⟩ := wt_int d3 (h2 (0, 3) (by simp) : wt T m 3 [c0])
  obtain ⟨s, e1, k1, k2, k3⟩ := wt_slI d22 d3 sz3 (h2 (1, 22) (by simp) : wt T m 22 [c1])
  obtain ⟨m', nl, sz, rows, _, e2, k4, k5, k6⟩ := wt_sl d25 (h2 (2, 25) (by simp) : wt T m 25 [c2])
  obtain ⟨us, rfl, hu⟩ := rows_map (row := rowR) (P := Rule.ok) (fun r hr => wt83 (k6 r hr))
  injection e0 with e0 _; injection e1 with e1 _; injection e2 with e2 _
  subst e0; subst e1; subst e2
  refine ⟨⟨x, s, ⟨nl, sz, us⟩⟩, rfl, k0, k1, k2, k3, fun hne => k4 (by simpa using hne), ?_, hu⟩
  simp at k5
  exact Nat.lt_of_le_of_lt k5 maxLen_lt
theorem wt30 : ∀ (n : Nat) {cs : List PV}, wt T n 30 cs → ∃ t : Tr, cs = rowT t ∧ t.ok
  | n, cs, h => by
    induction n using Nat.strongRecOn generalizing cs with
    | ind n ih =>
      obtain ⟨m, rfl, h1, h2⟩ := wt_st d30 h
      obtain ⟨c0, c1, rfl⟩ := len2 (h1 : cs.length = 2)
      obtain ⟨x, e0, k0⟩ := wt_int d3 (h2 (0, 3) (by simp) : wt T m 3 [c0])
      obtain ⟨m', nl, sz, rows, rfl, e2, k4, k5, k6⟩ := wt_sl d28 (h2 (1, 28) (by simp) : wt T m 28 [c1])
      obtain ⟨ks, rfl, hu⟩ := rows_map (row := rowT) (P := Tr.ok) (fun r hr => ih m' (by omega) (cs := r) (k6 r hr))
      injection e0 with e0 _; injection e2 with e2 _
      subst e0; subst e2
      refine ⟨.mk x nl sz ks, (rowT_mk _ _ _ _).symm, ?_⟩
      rw [Tr.ok_mk]
      refine ⟨k0, fun hne => k4 (by simpa using hne), ?_, hu⟩
      simp at k5
      exact Nat.lt_of_le_of_lt k5 maxLen_lt

theorem closed : closedB T [3, 22, 24, 25, 27, 28, 30, 83] = true := by decide +kernel
/-- the law, for arguments as they are read -/
theorem law3 (pss : List (List PV)) (h : wtAll T [24, 27, 30] pss) : ∃ σ', call Tryd.prog T H (.fn 3) (argsOf T [24, 27, 30] pss) [] = some (.ret (.p (.lit (.bool true))), σ') := by
  obtain ⟨p1, r1, rfl, ⟨n1, w1⟩, p2, r2, rfl, ⟨n2, w2⟩, p3, r3, rfl, ⟨n3, w3⟩, rfl⟩ := h
  obtain ⟨al, rfl, hal⟩ := wt24 w1
  obtain ⟨a, rfl, ha⟩ := wt27 w2
  obtain ⟨t, rfl, ht⟩ := wt30 n3 w3
  exact ⟨[], spec3 al hal a ha t ht⟩
end Go.AM.S03

namespace Go.AM.S03
open Go Go.Proofs Go.AM
set_option maxRecDepth 100000



def findT : Tr → List Int → Option Tr
  | t, [] => some t
  | .mk _ _ _ ks, i :: p => if i < 0 then none else match ks[i.toNat]? with
    | some k => findT k p
    | none => none
theorem findT_nil (t : Tr) : findT t [] = some t := by cases t; rfl
theorem findT_cons (s : Int) (nl : Bool) (sz : Nat) (ks : List Tr) (i : Int) (p : List Int) : findT (.mk s nl sz ks) (i :: p) = if i < 0 then none else match ks[i.toNat]? with
    | some k => findT k p
    | none => none := rfl
def found (K : Ex × S → Option (Out × List AObj)) (R : Option (Out × List AObj)) : Option Tr → Option (Out × List AObj)
  | some y => K (.normal, ⟨[(2, .ptr 0 0), (4, .ptr 1 0)], [.cells ((rowT y).map .p), .cells [.p (iv 0), .p (.sl true 0 [])]], [], none, false⟩)
  | none => R

theorem loop17_0 (K : Ex × S → Option (Out × List AObj)) (nl : Bool) (sz : Nat) (xs : List Int) (hsz : xs ≠ [] → sz = 1) (hlen : xs.length < 9223372036854775808) (R : Option (Out × List AObj))
    (hR : ∀ e o l, get e 4 = .ptr 1 0 → get e 5 = .p (bv false) → K (.ret, ⟨e, o :: .cells [.p (iv 0), .p (.sl true 0 [])] :: l, [], none, false⟩) = R) :
    ∀ (d i : Nat) (t : Tr) (e : Env), xs.length - i = d → i ≤ xs.length → t.ok → maskEnv e [2,4,8,9,10] = [(2, .ptr 0 0), (4, .ptr 1 0), (8, .p (.sl nl sz (xs.map rowI))), (9, .p (iv xs.length)), (10, .p (iv i))] →
    run Tryd.prog T H 17 0 0 (.loop L17_0) ⟨e, [.cells ((rowT t).map .p), .cells [.p (iv 0), .p (.sl true 0 [])]], [], none, false⟩ (blockK 0 (some [2,4]) K) = found K R (findT t (xs.drop i)) := by
  intro d
  induction d with
  | zero =>
    intro i t e hd hi c1 he
    have h0 : ¬ ((i : Int) < xs.length) := by omega
    try rw [List.drop_of_length_le (by omega : xs.length ≤ i)]
    rw [run_loop_mask (live := [2,4,8,9,10]) (h := by simp only [go_sem])]; dsimp only; rw [he]
    conv => lhs; arg 7; unfold L17_0 loopAt c17 Tryd.f17; simp only [loopIn, Option.getD_some, if_true]
    rw [findT_nil]
    obtain ⟨s, nl', sz', ks⟩ := t
    simp only [found]
    rw [rowT_mk]
    simp only [go_sem, h0]
  | succ d ihd =>
    intro i t e hd hi c1 he
    have h0 : ((i : Int) < xs.length) := by omega
    have h1 : (0 : Int) ≤ i := by omega
    obtain ⟨x, hx⟩ : ∃ x, xs[i]? = some x := ⟨xs[i]'(by omega), List.getElem?_eq_getElem (by omega)⟩
    have hmem : x ∈ xs := List.mem_of_getElem? hx
    have h2 : (xs.map rowI)[i]? = some ([iv x]) := by rw [map_get, hx]; rfl
    have hs : sz = 1 := hsz (by intro e; rw [e] at hx; simp at hx)
    subst hs
    have w1 : IntKind.i64.wrap (i + 1) = ((i + 1 : Nat) : Int) := by rw [wrapN] <;> omega
    try rw [drop_get hx]
    rw [run_loop_mask (live := [2,4,8,9,10]) (h := by simp only [go_sem])]; dsimp only; rw [he]
    conv => lhs; arg 7; unfold L17_0 loopAt c17 Tryd.f17; simp only [loopIn, Option.getD_some, if_true]
    obtain ⟨s, nl', sz', ks⟩ := t
    rw [Tr.ok_mk] at c1
    obtain ⟨q1, q2, q3, q4⟩ := c1
    rw [findT_cons, rowT_mk]
    by_cases b1 : x < 0
    · rw [if_pos b1]
      simp only [go_sem, h0, h1, h2, b1]
      exact hR _ _ _ rfl rfl
    · rw [if_neg b1]
      have h5 : 0 ≤ x := by omega
      by_cases b2 : (ks.length : Int) ≤ x
      · have e1 : ks[x.toNat]? = none := List.getElem?_eq_none (by omega)
        rw [e1]
        simp only [go_sem, h0, h1, h2, b1, b2, List.length_map]
        exact hR _ _ _ rfl rfl
      · obtain ⟨k, hk⟩ : ∃ k, ks[x.toNat]? = some k := ⟨ks[x.toNat]'(by omega), List.getElem?_eq_getElem (by omega)⟩
        rw [hk]
        have hkm := List.mem_of_getElem? hk
        have hs2 : sz' = 2 := q2 (by intro e; rw [e] at hkm; simp at hkm)
        subst hs2
        have h6 : (ks.map rowT)[x.toNat]? = some (rowT k) := by rw [map_get, hk]; rfl
        have key := fun e he => ihd (i + 1) k e (by omega) (by omega) (q4 k hkm) he
        obtain ⟨s2, nl2, sz2, ks2⟩ := k
        rw [rowT_mk] at h6 key
        simp only [go_sem, h0, h1, h2, h5, h6, b1, b2, List.length_map, w1]
        exact key _ rfl

def fndP : Option Tr → PV
  | some y => .tup [.agg (rowT y), bv true]
  | none => .tup [.agg (rowT leafT), bv false]

theorem spec17 (t : Tr) (ht : t.ok) (nl : Bool) (sz : Nat) (xs : List Int) (hsz : xs ≠ [] → sz = 1) (hlen : xs.length < 9223372036854775808) :
    call Tryd.prog T H (.fn 17) [.p (.agg (rowT t)), .p (.sl nl sz (xs.map rowI))] [] = some (.ret (.p (fndP (findT t xs))), []) := by
  rw [call17]
  conv => lhs; arg 7; unfold c17 Tryd.f17; simp only [Option.getD_some]
  have hl := fun K R => loop17_0 K nl sz xs hsz hlen R
  obtain ⟨s, nl', sz', ks⟩ := t
  have e0 : rowT leafT = [iv 0, .sl true 0 []] := rfl
  have h0 := fun K R hR e he => hl K R hR xs.length 0 (.mk s nl' sz' ks) e (by omega) (by omega) ht he
  rw [rowT_mk] at h0 ⊢
  simp only [go_sem, List.length_map]
  refine (h0 _ (some (.ret (.p (fndP none)), [])) (fun e o l g1 g2 => ?_) _ rfl).trans ?_
  · simp only [go_sem, g1, g2, fndP, e0]
  · rw [List.drop_zero]
    cases hf : findT (.mk s nl' sz' ks) xs with
    | none => rfl
    | some y =>
      simp only [found, fndP]
      obtain ⟨s2, nl2, sz2, ks2⟩ := y
      rw [rowT_mk]
      simp only [go_sem]


def repl : Tr → List Int → Tr → Tr
  | _, [], x => x
  | .mk s _ _ ks, i :: p, x => .mk s false 2 (match ks[i.toNat]? with
    | some k => ks.set i.toNat (repl k p x)
    | none => ks)
theorem repl_nil (t x : Tr) : repl t [] x = x := by cases t; rfl
theorem repl_cons (s : Int) (nl : Bool) (sz : Nat) (ks : List Tr) (i : Int) (p : List Int) (x : Tr) : repl (.mk s nl sz ks) (i :: p) x = .mk s false 2 (match ks[i.toNat]? with
    | some k => ks.set i.toNat (repl k p x)
    | none => ks) := rfl
def aT (ks : List Tr) : List (List AV) := ks.map fun k => (rowT k).map .p
theorem aT_len (ks : List Tr) : (aT ks).length = ks.length := by simp [aT]
theorem aT_get {ks : List Tr} {i : Nat} {k : Tr} (h : ks[i]? = some k) : (aT ks)[i]? = some ((rowT k).map .p) := by unfold aT; rw [List.getElem?_map, h]; rfl
theorem aT_set (ks : List Tr) (i : Nat) (k : Tr) : (aT ks).set i ((rowT k).map .p) = aT (ks.set i k) := by unfold aT; rw [List.map_set]
theorem pur_ps (base : Nat) (σ : List AObj) (k : Nat) : ∀ ps : List PV, (ps.map AV.p).mapM (pur base σ (k + 1)) = some ps
  | [] => rfl
  | p :: ps => by rw [List.map_cons, List.mapM_cons, pur_ps base σ k ps]; rfl
theorem aT_pur (base : Nat) (σ : List AObj) (k : Nat) : ∀ ks : List Tr, (aT ks).mapM (fun r => r.mapM (pur base σ (k + 1))) = some (ks.map rowT)
  | [] => rfl
  | t :: ks => by
    have := aT_pur base σ k ks
    show ((rowT t).map AV.p :: aT ks).mapM _ = _
    rw [List.mapM_cons, this, pur_ps]; rfl
theorem pur_repl {base : Nat} {σ : List AObj} {k id g z n : Nat} {ks : List Tr} {s : Int} (h1 : base ≤ id) (h2 : σ[id]? = some (.arr g 2 (aT ks))) (h3 : ks.length = n) : pur base σ (k + 3) (.agg [.p (iv s), .ms id g z 0 n]) = some (.agg (rowT (.mk s false 2 ks))) := by
  have hm : pur base σ (k + 2) (.ms id g z 0 n) = some (.sl false 2 (ks.map rowT)) := by
    refine pur_ms h1 h2 (by rw [aT_len]; omega) ?_
    rw [List.drop_zero, List.take_of_length_le (by rw [aT_len]; omega)]
    exact aT_pur base σ k ks
  rw [rowT_mk]
  show (match [AV.p (iv s), .ms id g z 0 n].mapM (pur base σ (k + 2)) with | some l => some (PV.agg l) | none => none) = _
  rw [List.mapM_cons, List.mapM_cons, hm]; rfl

theorem spec19 (x : Tr) : ∀ (xs : List Int) (nl : Bool) (sz : Nat) (t y : Tr), t.ok → (xs ≠ [] → sz = 1) → xs.length < 9223372036854775808 → t.size ≤ 1000000 → findT t xs = some y →
    call Tryd.prog T H (.fn 19) [.p (.agg (rowT t)), .p (.sl nl sz (xs.map rowI)), .p (.agg (rowT x))] [] = some (.ret (.p (.agg (rowT (repl t xs x)))), [])
  | [], nl, sz, t, y, ht, hsz, hlen, hts, hf => by
    rw [call19]
    conv => lhs; arg 7; unfold c19 Tryd.f19; simp only [Option.getD_some]
    rw [repl_nil]
    obtain ⟨s, nl', sz', ks⟩ := t
    obtain ⟨s2, nl2, sz2, ks2⟩ := x
    have b0 : (((0 : Nat) : Int) == 0) = true := rfl
    rw [rowT_mk, rowT_mk]
    simp only [go_sem, b0]
  | i :: p, nl, sz, t, y, ht, hsz, hlen, hts, hf => by
    obtain ⟨s, nl', sz', ks⟩ := t
    rw [Tr.ok_mk] at ht
    obtain ⟨q1, q2, q3, q4⟩ := ht
    rw [findT_cons] at hf
    rw [Tr.size_mk] at hts
    have hs1 : sz = 1 := hsz (by simp)
    subst hs1
    by_cases b1 : i < 0
    · rw [if_pos b1] at hf; cases hf
    · rw [if_neg b1] at hf
      cases hk : ks[i.toNat]? with
      | none => rw [hk] at hf; cases hf
      | some k =>
        rw [hk] at hf
        have hkm := List.mem_of_getElem? hk
        have hkl := (List.getElem?_eq_some_iff.1 hk).1
        have hs2 : sz' = 2 := q2 (by intro e; rw [e] at hkm; simp at hkm)
        subst hs2
        have hc := spec19 x p nl 1 k y (q4 k hkm) (fun _ => rfl) (by simp at hlen; omega) (by have := size_mem hkm; omega) hf
        have hrc : repl (.mk s nl' 2 ks) (i :: p) x = .mk s false 2 (ks.set i.toNat (repl k p x)) := by rw [repl_cons, hk]
        rw [hrc]
        have hkl2 : ks.length ≤ sizesT ks := by
          clear hc hf hkl hkm hk q2 q3 q4 hts hrc
          induction ks with
          | nil => simp
          | cons a r ih => rw [sizesT]; have : 1 ≤ a.size := by cases a; rw [Tr.size_mk]; omega
                           simp only [List.length_cons]; omega
        have h5 : 0 ≤ i := by omega
        have hg := aT_get hk
        have hst := aT_set ks i.toNat (repl k p x)
        have hpu := fun σ (hσ : σ[3]? = some (.arr 1 2 (aT (ks.set i.toNat (repl k p x))))) => @pur_repl 0 σ 3 3 1 2 ks.length (ks.set i.toNat (repl k p x)) s (by omega) hσ (by simp)
        have hb0 : boundOk ks.length 32 = true := bnd_ok (by omega) (by omega)
        have bl : (((p.length + 1 : Nat) : Int) == 0) = false := by
          have : (((p.length + 1 : Nat) : Int)) ≠ 0 := by omega
          simpa using this
        have hmapmap : (ks.map rowT).map (fun x => x.map AV.p) = aT ks := by simp [aT]
        have hle1 : 1 ≤ p.length + 1 := by omega
        have htk : (p.map rowI).take p.length = p.map rowI := List.take_of_length_le (by simp)
        rw [call19]
        conv => lhs; arg 7; unfold c19 Tryd.f19; simp only [Option.getD_some]
        have hr0 : rowI i = [iv i] := rfl
        generalize rowT (.mk s false 2 (ks.set i.toNat (repl k p x))) = RF at hpu ⊢
        obtain ⟨s2, nl2, sz2, ks2⟩ := x
        generalize repl k p (.mk s2 nl2 sz2 ks2) = rk at *
        obtain ⟨s3, nl3, sz3, ks3⟩ := rk
        obtain ⟨s4, nl4, sz4, ks4⟩ := k
        rw [rowT_mk] at hc hg hst
        rw [rowT_mk] at hc
        rw [rowT_mk, rowT_mk]
        simp only [List.map_cons, List.map_nil, hr0] at hc hg hst ⊢
        simp only [go_sem, List.length_map, bl, hb0, h5, hkl, hg, hst, hc, hpu, hmapmap, htk, hle1, aT_len, rowT_mk]

end Go.AM.S03

namespace Go.AM.S03
open Go Go.Proofs Go.AM
set_option maxRecDepth 100000



theorem findT_ok : ∀ (pos : List Int) (t y : Tr), t.ok → findT t pos = some y → y.ok
  | [], t, y, ht, h => by rw [findT_nil] at h; injection h with h; subst h; exact ht
  | i :: p, .mk s nl sz ks, y, ht, h => by
    rw [findT_cons] at h
    split at h
    · cases h
    · cases hk : ks[i.toNat]? with
      | none => rw [hk] at h; cases h
      | some k =>
        rw [hk] at h
        rw [Tr.ok_mk] at ht
        exact findT_ok p k y (ht.2.2.2 k (List.mem_of_getElem? hk)) h
theorem repl_ok {x : Tr} (hx : x.ok) : ∀ (pos : List Int) (t : Tr), t.ok → (repl t pos x).ok
  | [], t, ht => by rw [repl_nil]; exact hx
  | i :: p, .mk s nl sz ks, ht => by
    rw [repl_cons]
    rw [Tr.ok_mk] at ht ⊢
    obtain ⟨h1, h2, h3, h4⟩ := ht
    cases hk : ks[i.toNat]? with
    | none => exact ⟨h1, fun _ => rfl, h3, h4⟩
    | some k =>
      have hkm := List.mem_of_getElem? hk
      refine ⟨h1, fun _ => rfl, by simpa using h3, fun k' hk' => ?_⟩
      rcases List.mem_or_eq_of_mem_set hk' with h | h
      · exact h4 k' h
      · subst h; exact repl_ok hx p k (h4 k hkm)
theorem fitB_cons (l : List Int) (A : List (Sl Int)) (f : Int) (fr : List Int) : fitB (mkS l :: A) (f :: fr) = (l.contains f && fitB A fr) := rfl
theorem fit_set {us : List Rule} : ∀ (ks : List Tr) (n : Nat) (k k' : Tr) (fr : List Int), ks[n]? = some k → (∀ q, q ∈ ofT us k → q ∈ ofT us k') → fitB ((ofTs us ks).map mkS) fr = true → fitB ((ofTs us (ks.set n k')).map mkS) fr = true
  | [], n, k, k', fr, h, _, _ => by simp at h
  | a :: ks, 0, k, k', [], h, hs, hf => by rw [List.set_cons_zero, ofTs]; rfl
  | a :: ks, 0, k, k', f :: fr, h, hs, hf => by
    rw [List.getElem?_cons_zero] at h
    injection h with h; subst h
    rw [List.set_cons_zero, ofTs, List.map_cons, fitB_cons]
    rw [ofTs, List.map_cons, fitB_cons] at hf
    simp only [Bool.and_eq_true, List.contains_iff_mem] at hf ⊢
    exact ⟨hs f hf.1, hf.2⟩
  | a :: ks, n + 1, k, k', [], h, hs, hf => by rw [List.set_cons_succ, ofTs]; rfl
  | a :: ks, n + 1, k, k', f :: fr, h, hs, hf => by
    rw [List.getElem?_cons_succ] at h
    rw [List.set_cons_succ, ofTs, List.map_cons, fitB_cons]
    rw [ofTs, List.map_cons, fitB_cons] at hf
    simp only [Bool.and_eq_true] at hf ⊢
    exact ⟨hf.1, fit_set ks n k k' fr h hs hf.2⟩
/-- the states at the root grow with the states at a place -/
theorem repl_mono {us : List Rule} {x y : Tr} (hs : ∀ q, q ∈ ofT us y → q ∈ ofT us x) : ∀ (pos : List Int) (t : Tr), findT t pos = some y → ∀ q, q ∈ ofT us t → q ∈ ofT us (repl t pos x)
  | [], t, h, q, hq => by
    rw [findT_nil] at h; injection h with h; subst h
    rw [repl_nil]; exact hs q hq
  | i :: p, .mk s nl sz ks, h, q, hq => by
    rw [findT_cons] at h
    split at h
    · cases h
    · cases hk : ks[i.toNat]? with
      | none => rw [hk] at h; cases h
      | some k =>
        rw [hk] at h
        have ih := repl_mono hs p k h
        rw [repl_cons, hk]
        dsimp only
        rw [ofT, stepF_mem] at hq ⊢
        rcases hq with hq | ⟨r, h1, h2, h3, h4⟩
        · exact .inl hq
        · exact .inr ⟨r, h1, h2, fit_set ks _ k _ _ hk ih h3, h4⟩

theorem loop4_0 (K : Ex × S → Option (Out × List AObj)) (nl : Bool) (sz : Nat) (xs : List Int) (hsz : xs ≠ [] → sz = 1) (hlen : xs.length < 9223372036854775808) (nl2 : Bool) (sz2 : Nat) (ys : List Int) (hsz2 : ys ≠ [] → sz2 = 1) (hlen2 : ys.length < 9223372036854775808) (nl0 : Bool) (sz0 : Nat) (R0 : List (List PV)) (o1 o2 o3 o4 o5 : AObj)
    (hR : ∀ e σ, get e 10 = .p (bv true) → K (.ret, ⟨e, σ, [], none, false⟩) = some (.ret (.p (bv true)), [])) :
    ∀ (d i : Nat)  (e : Env), xs.length - i = d → i ≤ xs.length → maskEnv e [4,5,6,7,8,15,73,74,75] = [(4, .p (.sl nl0 sz0 R0)), (5, .ptr 0 0), (6, .ptr 1 0), (7, .ptr 2 0), (8, .ptr 3 0), (15, .p (.sl nl2 sz2 (ys.map rowI))), (73, .p (.sl nl sz (xs.map rowI))), (74, .p (iv xs.length)), (75, .p (iv i))] →
    run Tryd.prog T H 4 0 0 (.loop L4_0) ⟨e, [o1, o2, o3, o4, o5], [], none, false⟩ (blockK 0 (some [4,5,6,7,8]) K) = if (xs.drop i).all (fun q => ys.contains q) = true then K (.normal, ⟨[(4, .p (.sl nl0 sz0 R0)), (5, .ptr 0 0), (6, .ptr 1 0), (7, .ptr 2 0), (8, .ptr 3 0)], [o1, o2, o3, o4, o5], [], none, false⟩) else some (.ret (.p (bv true)), []) := by
  intro d
  induction d with
  | zero =>
    intro i  e hd hi  he
    have h0 : ¬ ((i : Int) < xs.length) := by omega
    try rw [List.drop_of_length_le (by omega : xs.length ≤ i)]
    rw [run_loop_mask (live := [4,5,6,7,8,15,73,74,75]) (h := by simp only [go_sem])]; dsimp only; rw [he]
    conv => lhs; arg 7; unfold L4_0 loopAt c4 Tryd.f4; simp only [loopIn, Option.getD_some, if_true]
    simp only [go_sem, h0, List.all_nil]
  | succ d ihd =>
    intro i  e hd hi  he
    have h0 : ((i : Int) < xs.length) := by omega
    have h1 : (0 : Int) ≤ i := by omega
    obtain ⟨x, hx⟩ : ∃ x, xs[i]? = some x := ⟨xs[i]'(by omega), List.getElem?_eq_getElem (by omega)⟩
    have hmem : x ∈ xs := List.mem_of_getElem? hx
    have h2 : (xs.map rowI)[i]? = some ([iv x]) := by rw [map_get, hx]; rfl
    have hs : sz = 1 := hsz (by intro e; rw [e] at hx; simp at hx)
    subst hs
    have w1 : IntKind.i64.wrap (i + 1) = ((i + 1 : Nat) : Int) := by rw [wrapN] <;> omega
    try rw [drop_get hx]
    rw [run_loop_mask (live := [4,5,6,7,8,15,73,74,75]) (h := by simp only [go_sem])]; dsimp only; rw [he]
    conv => lhs; arg 7; unfold L4_0 loopAt c4 Tryd.f4; simp only [loopIn, Option.getD_some, if_true]
    have hc := spec18 nl2 sz2 ys x hsz2 hlen2
    have h10 := spec10
    cases hb : ys.contains x with
    | true =>
      rw [hb] at hc
      simp only [go_sem, h0, h1, h2, hc, List.all_cons, hb, w1]
      exact ihd (i + 1) _ (by omega) (by omega) rfl
    | false =>
      rw [hb] at hc
      simp only [go_sem, h0, h1, h2, hc, List.all_cons, hb, h10]
      exact hR _ _ rfl

theorem spec4 (al : Al) (hal : al.ok) (a : Au) (ha : a.ok) (t : Tr) (ht : t.ok) (x : Tr) (hx : x.ok) (pos : Sl Int) (hp : Sl.ok 1 pos) (hpl : pos.xs.length < 9223372036854775808) :
    call Tryd.prog T H (.fn 4) [.p (.agg (rowAl al)), .p (.agg (rowA a)), .p (.agg (rowT t)), .p (.agg (rowT x)), .p (slP rowI pos)] [] = some (.ret (.p (bv true)), []) := by
  rw [call4]
  conv => lhs; arg 7; unfold c4 Tryd.f4; simp only [Option.getD_some]
  obtain ⟨nl, sz, xs⟩ := pos
  have hsz : xs ≠ [] → sz = 1 := hp
  dsimp only at hpl
  have h9 := spec9 al hal a ha false 2 [t, x] (fun _ => rfl) (by simp) (fun z hz => by simp at hz; rcases hz with rfl | rfl <;> assumption)
  have h10 := spec10
  have h16 := spec16 al hal t ht
  have h17 := spec17 t ht nl sz xs hsz hpl
  have h11x := spec11 al hal a ha x hx
  have h13t := spec13 al hal a ha t ht
  simp only [List.map_cons, List.map_nil] at h9
  rw [show slP rowI (⟨nl, sz, xs⟩ : Sl Int) = .sl nl sz (xs.map rowI) from rfl]
  have rt : ∃ c1 c2, rowT t = [c1, c2] := by cases t; exact ⟨_, _, rowT_mk _ _ _ _⟩
  have rx : ∃ c1 c2, rowT x = [c1, c2] := by cases x; exact ⟨_, _, rowT_mk _ _ _ _⟩
  obtain ⟨t1, t2, rt⟩ := rt
  obtain ⟨x1, x2, rx⟩ := rx
  cases hfw : (([t, x].all fun t => decide ((t.size : Int) ≤ 400)) && fewA al 300 60 a) with
  | false =>
    rw [hfw] at h9
    rw [rt, rx] at h9 ⊢
    unfold rowAl rowA at h9 ⊢
    simp only [go_sem, h9, h10]
  | true =>
    have hts : t.size ≤ 1000000 := by
      simp only [List.all_cons, List.all_nil, Bool.and_eq_true, decide_eq_true_eq] at hfw
      omega
    rw [hfw] at h9
    by_cases b1 : 400 < (xs.length : Int)
    · rw [rt, rx] at h9 ⊢
      unfold rowAl rowA at h9 ⊢
      simp only [go_sem, h9, h10, List.length_map, b1]
    · cases hVT : VT al t with
      | false =>
        rw [hVT] at h16
        rw [rt, rx] at h9 ⊢
        rw [rt] at h16
        unfold rowAl rowA at h9 ⊢
        unfold rowAl at h16
        simp only [go_sem, h9, h10, List.length_map, b1, h16]
      | true =>
        rw [hVT] at h16
        cases hf : findT t xs with
        | none =>
          rw [hf] at h17
          have r0 : rowT leafT = [iv 0, .sl true 0 []] := rfl
          unfold fndP at h17
          rw [r0] at h17
          rw [rt, rx] at h9 ⊢
          rw [rt] at h16 h17
          unfold rowAl rowA at h9 ⊢
          unfold rowAl at h16
          simp only [go_sem, h9, h10, List.length_map, b1, h16, h17]
        | some y =>
          have hy := findT_ok xs t y ht hf
          have hu := repl_ok hx xs t ht
          rw [hf] at h17
          unfold fndP at h17
          have h11y := spec11 al hal a ha y hy
          have h13u := spec13 al hal a ha (repl t xs x) hu
          have h19 := spec19 x xs nl sz t y ht hsz hpl hts hf
          have ry : ∃ c1 c2, rowT y = [c1, c2] := by cases y; exact ⟨_, _, rowT_mk _ _ _ _⟩
          have ru : ∃ c1 c2, rowT (repl t xs x) = [c1, c2] := by cases repl t xs x; exact ⟨_, _, rowT_mk _ _ _ _⟩
          obtain ⟨y1, y2, ry⟩ := ry
          obtain ⟨u1, u2, ru⟩ := ru
          rw [slOf_eq] at h11y h11x
          -- the plain law
          have hlaw : okV al a y = true → okV al a x = true → ((stL al a y).all fun q => (stL al a x).contains q) = true → okV al a t = true → okV al a (repl t xs x) = true → ((stL al a t).any fun q => a.final.xs.contains q) = true → ((stL al a (repl t xs x)).any fun q => a.final.xs.contains q) = true := by
            intro g1 g2 g3 g4 g5 g6
            rw [stL_eq g1, stL_eq g2] at g3
            rw [stL_eq g4] at g6
            rw [stL_eq g5]
            obtain ⟨q, k1, k2⟩ := List.any_eq_true.1 g6
            exact List.any_eq_true.2 ⟨q, repl_mono (fun z hz => List.contains_iff_mem.1 (List.all_eq_true.1 g3 z hz)) xs t hf q k1, k2⟩
          have hlen : ∀ z : Tr, okV al a z = true → (stL al a z).length < 9223372036854775808 := by
            intro z hz
            rw [stL_eq hz]
            have h1 := ofT_len a.rules.xs z
            have h2 := ha.2.2.2.2.2.1
            omega
          have hl4 := fun K o1 o2 o3 o4 o5 hR e he g1 g2 => loop4_0 K (slOf (stL al a y)).nl (slOf (stL al a y)).sz (stL al a y) (slOf_sz _) (hlen y g1) (slOf (stL al a x)).nl (slOf (stL al a x)).sz (stL al a x) (slOf_sz _) (hlen x g2) nl sz (xs.map rowI) o1 o2 o3 o4 o5 hR (stL al a y).length 0 e (by omega) (by omega) he
          have b1n : ((1 : Int) == 0) = false := rfl
          have b0n : ((0 : Int) == 0) = true := rfl
          have i1 : iv (if (false = true) then 0 else 1) = iv 1 := rfl
          have i0 : iv (if (true = true) then 0 else 1) = iv 0 := rfl
          cases gy : okV al a y with
          | false =>
            rw [gy, i1] at h11y
            generalize (slOf (if false = true then stL al a y else [])).nl = n1 at h11y
            generalize (slOf (if false = true then stL al a y else [])).sz = n2 at h11y
            generalize (if false = true then stL al a y else []).map rowI = n3 at h11y
            generalize (slOf (if okV al a x = true then stL al a x else [])).nl = n4 at h11x
            generalize (slOf (if okV al a x = true then stL al a x else [])).sz = n5 at h11x
            generalize (if okV al a x = true then stL al a x else []).map rowI = n6 at h11x
            generalize (if okV al a x = true then (0 : Int) else 1) = n7 at h11x
            dsimp only at h17
            rw [ry] at h11y h17
            rw [rt, rx] at h9 ⊢
            rw [rt] at h16 h17
            rw [rx] at h11x
            unfold rowAl rowA at h9 h11y h11x ⊢
            unfold rowAl at h16
            simp only [go_sem, h9, h10, List.length_map, b1, h16, h17, h11y, h11x, b1n]
          | true =>
            have hl4 := fun K o1 o2 o3 o4 o5 hR e he g2 => hl4 K o1 o2 o3 o4 o5 hR e he gy g2
            rw [gy, i0] at h11y
            simp only [if_true] at h11y
            cases gx : okV al a x with
            | false =>
              rw [gx, i1] at h11x
              clear hl4
              generalize (slOf (stL al a y)).nl = n1 at h11y
              generalize (slOf (stL al a y)).sz = n2 at h11y
              generalize (stL al a y).map rowI = n3 at h11y
              generalize (slOf (if false = true then stL al a x else [])).nl = n4 at h11x
              generalize (slOf (if false = true then stL al a x else [])).sz = n5 at h11x
              generalize (if false = true then stL al a x else []).map rowI = n6 at h11x
              dsimp only at h17
              rw [ry] at h11y h17
              rw [rt, rx] at h9 ⊢
              rw [rt] at h16 h17
              rw [rx] at h11x
              unfold rowAl rowA at h9 h11y h11x ⊢
              unfold rowAl at h16
              simp only [go_sem, h9, h10, List.length_map, b1, h16, h17, h11y, h11x, b1n, b0n]
            | true =>
              have hl4 := fun K o1 o2 o3 o4 o5 hR e he => hl4 K o1 o2 o3 o4 o5 hR e he gx
              rw [gx, i0] at h11x
              simp only [if_true] at h11x
              have hlaw := hlaw gy gx
              simp only [List.drop_zero] at hl4
              have hll : ((stL al a y).map rowI).length = (stL al a y).length := by simp
              generalize (slOf (stL al a y)).nl = n1 at h11y hl4
              generalize (slOf (stL al a y)).sz = n2 at h11y hl4
              generalize (stL al a y).map rowI = n3 at h11y hll hl4
              generalize (slOf (stL al a x)).nl = n4 at h11x hl4
              generalize (slOf (stL al a x)).sz = n5 at h11x hl4
              generalize (stL al a x).map rowI = n6 at h11x hl4
              generalize ((stL al a y).all fun q => (stL al a x).contains q) = bb at hlaw hl4
              generalize (stL al a y).length = n8 at hll hl4
              dsimp only at h17
              rw [ry] at h11y h17
              rw [rt, rx] at h9 h19 ⊢
              rw [ru] at h19 h13u
              rw [rt] at h16 h17 h13t
              rw [rx] at h11x
              unfold rowAl rowA at h9 h11y h11x h13t h13u ⊢
              unfold rowAl at h16
              simp only [go_sem, h9, h10, List.length_map, b1, h16, h17, h11y, h11x, b1n, b0n, hll]
              refine (hl4 _ _ _ _ _ _ (fun e σ he => by simp only [go_sem, he]) _ rfl).trans ?_
              cases bb with
              | false => rfl
              | true =>
                rw [if_pos rfl]
                have hlaw := hlaw rfl
                clear hl4
                generalize ((stL al a t).any fun q => a.final.xs.contains q) = f1 at hlaw h13t
                generalize ((stL al a (repl t xs x)).any fun q => a.final.xs.contains q) = f2 at hlaw h13u
                cases g1 : okV al a t with
                | false =>
                  rw [g1, i1] at h13t
                  generalize (if okV al a (repl t xs x) = true then (0 : Int) else 1) = n7 at h13u
                  generalize (okV al a (repl t xs x) && f2) = n9 at h13u
                  simp only [go_sem, h10, h19, h13t, h13u, b1n]
                | true =>
                  rw [g1, i0] at h13t
                  cases g2 : okV al a (repl t xs x) with
                  | false =>
                    rw [g2, i1] at h13u
                    generalize (true && f1) = n9 at h13t
                    generalize (false && f2) = n10 at h13u
                    simp only [go_sem, h10, h19, h13t, h13u, b1n, b0n]
                  | true =>
                    rw [g2, i0] at h13u
                    have hlaw := hlaw g1 g2
                    cases f1 with
                    | false =>
                      generalize (true && f2) = n10 at h13u
                      simp only [Bool.true_and] at h13t
                      simp only [go_sem, h10, h19, h13t, h13u, b1n, b0n]
                    | true =>
                      have e2 := hlaw rfl
                      subst e2
                      simp only [Bool.true_and] at h13t h13u
                      simp only [go_sem, h10, h19, h13t, h13u, b1n, b0n]

/-- the law, for arguments as they are read -/
theorem law4 (pss : List (List PV)) (h : wtAll T [24, 27, 30, 30, 22] pss) : ∃ σ', call Tryd.prog T H (.fn 4) (argsOf T [24, 27, 30, 30, 22] pss) [] = some (.ret (.p (.lit (.bool true))), σ') := by
  obtain ⟨p1, r1, rfl, ⟨n1, w1⟩, p2, r2, rfl, ⟨n2, w2⟩, p3, r3, rfl, ⟨n3, w3⟩, p4, r4, rfl, ⟨n4, w4⟩, p5, r5, rfl, ⟨n5, w5⟩, rfl⟩ := h
  obtain ⟨al, rfl, hal⟩ := wt24 w1
  obtain ⟨a, rfl, ha⟩ := wt27 w2
  obtain ⟨t, rfl, ht⟩ := wt30 n3 w3
  obtain ⟨x, rfl, hx⟩ := wt30 n4 w4
  obtain ⟨s, rfl, hs, hl, _⟩ := wt_slI d22 d3 sz3 w5
  exact ⟨[], spec4 al hal a ha t ht x hx s hs hl⟩

end Go.AM.S03

