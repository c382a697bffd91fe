/- From the reading of arguments to a run of the abstract machine, and back to the contract of a law. -/
import Derived.Test.YtbalikooghpmlaaDoorAmSim
import Derived.Carry
import Derived.ChangeSame
import Derived.WideKeyArgs
import Derived.ChangeArms
import Derived.OpenShut
set_option linter.unusedVariables false
set_option linter.unusedSimpArgs false
namespace Go.AM
open Go Go.RowKit Go.ChangeShapes
def hOf : List (Nat × FH) → FuncId → FH
 | [], _ => {}
 | (k, h) :: r, f => if k == f then h else hOf r f
theorem hOf_mem : ∀ {l : List (Nat × FH)} {f : FuncId}, (hOf l f).ok = true → (f, hOf l f) ∈ l
 | [], f, h => by cases h
 | (k, h') :: r, f, h => by
  unfold hOf at h ⊢
  split
  ·rename_i e
   have : k = f := by simpa using e
   subst this
   exact List.mem_cons_self
  ·rename_i e
   rw [if_neg e] at h
   exact List.mem_cons_of_mem _ (hOf_mem h)
def fnCheck (P : Program) (H : FuncId → FH) (p : Nat × FH) : Bool :=
 !p.2.ok || match P.funcs[p.1]? with
 | some fn => match fn.body with
  | some c => codeOk H p.2 fn.ntmps c && !(fn.name == "runtime.NumGoroutine")
  | none => true
 | none => true
theorem fnsOk_of {P : Program} {HL : List (Nat × FH)} (hm : P.follows .mixedOrders = true) (hc : HL.all (fnCheck P (hOf HL)) = true) : FnsOk P (hOf HL) := by
 refine ⟨hm, fun f fn c hf hb ho => ?_⟩
 have := List.all_eq_true.1 hc _ (hOf_mem ho)
 unfold fnCheck at this
 simp only [hf, hb, ho, Bool.not_true, Bool.false_or, Bool.and_eq_true, Bool.not_eq_true'] at this
 exact this
def memOf (W : World) : Mem := fun b o => W.cell? ⟨b, o, none⟩
def tile (T : Tab) : Nat → List (Nat × TypeId) → Nat → Bool
 | o, [], n => o == n
 | o, f :: fs, n => f.1 == o && tile T (o + (T.at f.2).size) fs n
def closedB (T : Tab) (L : List TypeId) : Bool :=
 L.all fun t => match (T.at t).d with
  | .int _ | .bool | .str => (T.at t).size == 1
  | .sl e => (T.at t).size == 1 && L.contains e && decide (0 < (T.at e).size)
  | .st fs => tile T 0 fs (T.at t).size && fs.all fun f => L.contains f.2
  | _ => false
def wt (T : Tab) : Nat → TypeId → List PV → Prop
 | 0, _, _ => False
 | n + 1, t, cs => match (T.at t).d with
  | .bool => ∃ b, cs = [.lit (.bool b)]
  | .int k => ∃ i, cs = [.lit (.int k i)] ∧ k.min ≤ i ∧ i ≤ k.max
  | .str => ∃ s : ByteArray, cs = [.lit (.string s)] ∧ s.size ≤ maxLen
  | .sl e => ∃ rows, cs = [.sl none (T.at e).size rows] ∧ rows.length ≤ maxLen ∧ ∀ r, r ∈ rows → wt T n e r
  | .st fs => cs.length = (T.at t).size ∧ ∀ f, f ∈ fs → wt T n f.2 ((cs.drop f.1).take (T.at f.2).size)
  | _ => False
theorem mapM_opt {α β : Type} {f : α → Option β} : ∀ {l : List α} {r : List β}, l.mapM f = some r → r.length = l.length ∧ ∀ (i : Nat) x, l[i]? = some x → ∃ y, r[i]? = some y ∧ f x = some y
 | [], r, h => by
  simp at h; subst h
  exact ⟨rfl, fun i x hx => by simp at hx⟩
 | a :: l, r, h => by
  rw [List.mapM_cons] at h
  cases ha : f a with
  | none => rw [ha] at h; cases h
  | some b =>
   rw [ha] at h
   cases hl : l.mapM f with
   | none => simp [hl] at h
   | some bs =>
    simp [hl] at h
    subst h
    obtain ⟨h1, h2⟩ := mapM_opt hl
    refine ⟨by simp [h1], fun i x hx => ?_⟩
    cases i with
    | zero => simp at hx; subst hx; exact ⟨b, by simp, ha⟩
    | succ i => simp at hx; simpa using h2 i x hx
theorem mapM_range {β : Type} {f : Nat → Option β} {n : Nat} {r : List β} (h : (List.range n).mapM f = some r) : r.length = n ∧ ∀ i, i < n → ∃ y, r[i]? = some y ∧ f i = some y := by
 obtain ⟨h1, h2⟩ := mapM_opt h
 refine ⟨by simpa using h1, fun i hi => h2 i i (by simp [List.getElem?_range hi])⟩
theorem cells?_get {W : World} {base : Nat} {a : Addr} {n : Nat} {cs : List Value} (h : W.cells? base a n = some cs) : cs.length = n ∧ ∀ i, i < n → ∃ y, cs[i]? = some y ∧ W.cell? (a.add i) = some y := by
 unfold World.cells? at h
 split at h
 ·exact mapM_range h
 ·cases h
theorem RelPC.of1 {Φ : Mem} : ∀ {ps : List PV} {us : List Value} {b o : Nat}, RelP1 Φ ps us → (∀ (j : Nat) u, us[j]? = some u → Φ b (o + j) = some u) → RelPC Φ ps b o
 | [], _, _, _, _, _ => by unfold RelPC; trivial
 | p :: ps, us, b, o, h, hc => by
  unfold RelP1 at h
  obtain ⟨u, us', rfl, o1, hr, hrs⟩ := h
  unfold RelPC
  refine ⟨⟨u, by simpa using hc 0 u (by simp), o1, hr⟩, RelPC.of1 hrs fun j v hj => ?_⟩
  have := hc (j + 1) v (by simpa using hj)
  rwa [show o + 1 + j = o + (j + 1) by omega]
theorem RelP1.len {Φ : Mem} : ∀ {ps : List PV} {us : List Value}, RelP1 Φ ps us → ps.length = us.length
 | [], us, h => by unfold RelP1 at h; subst h; rfl
 | p :: ps, us, h => by
  unfold RelP1 at h
  obtain ⟨u, us', rfl, _, _, hrs⟩ := h
  simp [RelP1.len hrs]
theorem RelP1.app {Φ : Mem} : ∀ {ps qs : List PV} {us vs : List Value}, RelP1 Φ ps us → RelP1 Φ qs vs → RelP1 Φ (ps ++ qs) (us ++ vs)
 | [], qs, us, vs, h, k => by unfold RelP1 at h; subst h; exact k
 | p :: ps, qs, us, vs, h, k => by
  unfold RelP1 at h
  obtain ⟨u, us', rfl, o1, hr, hrs⟩ := h
  show RelP1 Φ (p :: (ps ++ qs)) (u :: (us' ++ vs))
  unfold RelP1
  exact ⟨u, _, rfl, o1, hr, hrs.app k⟩
theorem RelP1.single {Φ : Mem} {p : PV} {v : Value} (o : one v = true) (h : RelP Φ p v) : RelP1 Φ [p] [v] := by
 unfold RelP1
 exact ⟨v, [], rfl, o, h, by unfold RelP1; rfl⟩
theorem addr_spot {a : Addr} (h : a.spot = none) (i : Nat) : a.add i = ⟨a.block, a.off + i, none⟩ := by
 obtain ⟨b, o, s⟩ := a
 simp only at h; subst h
 unfold Addr.add
 split
 ·rename_i h; subst h; rfl
 ·rfl
theorem choose_idx {α : Type} (Q : Nat → α → Prop) : ∀ n : Nat, (∀ i, i < n → ∃ x, Q i x) → ∃ l : List α, l.length = n ∧ ∀ (i : Nat) x, l[i]? = some x → Q i x
 | 0, _ => ⟨[], rfl, fun i x h => by simp at h⟩
 | n + 1, h => by
  obtain ⟨l, hl, hq⟩ := choose_idx Q n (fun i hi => h i (by omega))
  obtain ⟨x, hx⟩ := h n (by omega)
  refine ⟨l ++ [x], by simp [hl], fun i y hi => ?_⟩
  rw [List.getElem?_append] at hi
  split at hi
  ·exact hq i y hi
  ·rename_i hlt
   have : i = n := by
    have := (List.getElem?_eq_some_iff.1 hi).1
    simp at this; omega
   subst this
   have e : i - l.length = 0 := by omega
   rw [e] at hi; simp at hi; subst hi; exact hx
theorem RelPR.mk' {Φ : Mem} {sz : Nat} : ∀ {rows : List (List PV)} {b o : Nat}, (∀ (i : Nat) r, rows[i]? = some r → r.length = sz ∧ RelPC Φ r b (o + i * sz)) → RelPR Φ sz rows b o
 | [], _, _, _ => by unfold RelPR; trivial
 | r :: rows, b, o, h => by
  unfold RelPR
  obtain ⟨h1, h2⟩ := h 0 r (by simp)
  refine ⟨h1, by simpa using h2, RelPR.mk' fun i r' hi => ?_⟩
  have := h (i + 1) r' (by simpa using hi)
  rwa [show o + (i + 1) * sz = o + sz + i * sz by rw [Nat.add_mul]; omega] at this
section
variable {Hd : Type} {enc : TypeId × Value → Hd} {P : Program} {T : Tab}
theorem TabOk.cells (hT : TabOk P T) {t : TypeId} (h : (T.at t).d ≠ .other) : P.cellsOf t = (T.at t).size := by
 obtain ⟨i, u, hi, hu, h1, _⟩ := (hT.ty t h).out
 simp [Program.cellsOf, hi, h1]
theorem tile_rel {Φ : Mem} {n : Nat} {cs : List Value} {N : Nat} (hcs : cs.length = N) (hsz : ∀ f : Nat × TypeId, ∀ p, RelP1 Φ p ((cs.drop f.1).take (T.at f.2).size) → True) : ∀ (fs : List (Nat × TypeId)) (o : Nat), tile T o fs N = true → o ≤ N →
 (∀ f, f ∈ fs → ∃ p, wt T n f.2 p ∧ RelP1 Φ p ((cs.drop f.1).take (T.at f.2).size) ∧ ((cs.drop f.1).take (T.at f.2).size).length = (T.at f.2).size) →
 ∃ ps, RelP1 Φ ps (cs.drop o) ∧ ∀ f, f ∈ fs → o ≤ f.1 ∧ wt T n f.2 ((ps.drop (f.1 - o)).take (T.at f.2).size)
 | [], o, ht, ho, _ => by
  simp [tile] at ht
  subst ht
  exact ⟨[], by rw [List.drop_eq_nil_of_le (by omega)]; unfold RelP1; rfl, fun f hf => by simp at hf⟩
 | f :: fs, o, ht, ho, h => by
  simp only [tile, Bool.and_eq_true, beq_iff_eq] at ht
  obtain ⟨rfl, ht⟩ := ht
  obtain ⟨p, hw, hr, hl⟩ := h f (by simp)
  have hle : f.1 + (T.at f.2).size ≤ N := by
   simp only [List.length_take, List.length_drop] at hl
   omega
  obtain ⟨ps, hps, hwf⟩ := tile_rel hcs hsz fs (f.1 + (T.at f.2).size) ht hle (fun f' hf => h f' (List.mem_cons_of_mem f hf))
  have hpl : p.length = (T.at f.2).size := by rw [hr.len, hl]
  refine ⟨p ++ ps, ?_, fun f' hf' => ?_⟩
  ·have : cs.drop f.1 = (cs.drop f.1).take (T.at f.2).size ++ cs.drop (f.1 + (T.at f.2).size) := by
    rw [← List.drop_drop, List.take_append_drop]
   rw [this]
   exact hr.app hps
  ·rcases List.mem_cons.1 hf' with rfl | hf'
   ·refine ⟨Nat.le_refl _, ?_⟩
    rw [Nat.sub_self, List.drop_zero, ← hpl, List.take_left']
    ·exact hw
    ·rfl
   ·obtain ⟨h1, h2⟩ := hwf f' hf'
    refine ⟨by omega, ?_⟩
    have e : (p ++ ps).drop (f'.1 - f.1) = ps.drop (f'.1 - (f.1 + (T.at f.2).size)) := by
     rw [List.drop_append, List.drop_eq_nil_of_le (by omega), List.nil_append]
     congr 1; omega
    rw [e]; exact h2
theorem wt_len {L : List TypeId} (hL : closedB T L = true) {n : Nat} {t : TypeId} {ps : List PV} (ht : t ∈ L) (h : wt T n t ps) : ps.length = (T.at t).size := by
 cases n with
 | zero => exact h.elim
 | succ n =>
  have hc := List.all_eq_true.1 hL t ht
  unfold wt at h
  generalize hd : (T.at t).d = d at hc h
  cases d with
  | int k => obtain ⟨i, rfl, _⟩ := h; simp at hc; simp [hc]
  | bool => obtain ⟨i, rfl⟩ := h; simp at hc; simp [hc]
  | str => obtain ⟨i, rfl, _⟩ := h; simp at hc; simp [hc]
  | sl e =>
   simp at hc
   obtain ⟨rows, rfl, _⟩ := h; simp [hc]
  | st fs => exact h.1
  | _ => exact h.elim
theorem trod_wt (hT : TabOk P T) {L : List TypeId} (hL : closedB T L = true) {W : World} {base : Nat} : ∀ (n : Nat) (t : TypeId) (cs : List Value) (x : DataW Hd × List MemPlace), t ∈ L →
 DataW.trod enc P W base (fun _ => true) true n t cs = some x → ∃ ps, wt T n t ps ∧ RelP1 (memOf W) ps cs
 | 0, _, _, _, _, h => by simp [DataW.trod] at h
 | n + 1, t, cs, x, ht, h => by
  have hc := List.all_eq_true.1 hL t ht
  have hno : (T.at t).d ≠ .other := by intro e; rw [e] at hc; cases hc
  obtain ⟨i, u, hi, hu, hs1, hs2, hm, _⟩ := (hT.ty t hno).out
  have hcell := hT.cells hno
  unfold wt
  generalize hd : (T.at t).d = d at hc hm hno ⊢
  cases d with
  | int k =>
   cases u <;> simp [tdMatch] at hm
   subst hm
   obtain ⟨z, rfl, rfl, hw⟩ := DataW.trod_int hu h
   refine ⟨[.lit (.int k z)], ⟨z, rfl, ?_⟩, RelP1.single rfl (by unfold RelP; exact ⟨rfl, rfl⟩)⟩
   simpa [Lit.wf] using hw
  | bool =>
   cases u <;> simp [tdMatch] at hm
   obtain ⟨z, rfl, rfl⟩ := DataW.trod_bool hu h
   exact ⟨[.lit (.bool z)], ⟨z, rfl⟩, RelP1.single rfl (by unfold RelP; exact ⟨rfl, rfl⟩)⟩
  | str =>
   cases u <;> simp [tdMatch] at hm
   obtain ⟨z, rfl, rfl, hs⟩ := DataW.trod_string hu h
   exact ⟨[.lit (.string z)], ⟨z, rfl, hs⟩, RelP1.single rfl (by unfold RelP; exact ⟨rfl, rfl⟩)⟩
  | sl e =>
   cases u <;> simp [tdMatch] at hm
   subst hm
   simp only [Bool.and_eq_true, List.contains_iff_mem, decide_eq_true_eq] at hc
   obtain ⟨⟨_, heL⟩, hpos⟩ := hc
   have heno : (T.at e).d ≠ .other := by
    intro e'
    have := List.all_eq_true.1 hL e heL
    rw [e'] at this; cases this
   have hce := hT.cells heno
   rcases DataW.trod_slice hu h with ⟨rfl, _⟩ | ⟨a, len, cap, elems, rest, n', hn, rfl, _, hb, hlc, hcm, hel, helem, hrest, _⟩
   ·refine ⟨[.sl none (T.at e).size []], ⟨[], rfl, Nat.zero_le _, by simp⟩, RelP1.single rfl ?_⟩
    unfold RelP
    exact ⟨none, 0, rfl, Nat.le_refl _, (fun h => by cases h), (fun h => by cases h), .inl ⟨rfl, rfl⟩⟩
   ·injection hn with hn; subst hn
    rw [hce] at helem hrest
    have one_elem : ∀ {i : Nat} {l : List (DataW Hd × List MemPlace)} {k : Nat}, k < l.length → (W.cells? base (a.add (i * (T.at e).size)) (T.at e).size).bind (DataW.trod enc P W base (fun _ => true) true n e) = l[k]? →
     ∃ ces r, W.cells? base (a.add (i * (T.at e).size)) (T.at e).size = some ces ∧ wt T n e r ∧ RelP1 (memOf W) r ces := by
     intro i l k hk hb'
     rw [List.getElem?_eq_getElem hk] at hb'
     obtain ⟨ces, h1, h2⟩ := Option.bind_eq_some_iff.1 hb'
     obtain ⟨r, hr1, hr2⟩ := trod_wt hT hL n e ces _ heL h2
     exact ⟨ces, r, h1, hr1, hr2⟩
    have hsp : 0 < cap → a.spot = none := by
     intro hc0
     have : ∃ i ces, i = 0 ∧ W.cells? base (a.add (i * (T.at e).size)) (T.at e).size = some ces := by
      rcases Nat.eq_zero_or_pos len with h0 | h0
      ·obtain ⟨hr1, hr2⟩ := hrest rfl
       have := hr2 0 (by omega)
       rw [h0] at this
       obtain ⟨ces, r, h1, _⟩ := one_elem (i := 0 + 0) (l := rest) (k := 0) (by omega) this
       exact ⟨0 + 0, ces, rfl, h1⟩
      ·obtain ⟨ces, r, h1, _⟩ := one_elem (i := 0) (l := elems) (k := 0) (by omega) (helem 0 h0)
       exact ⟨0, ces, rfl, h1⟩
     obtain ⟨i, ces, rfl, h1⟩ := this
     obtain ⟨_, hg⟩ := cells?_get h1
     obtain ⟨y, _, hy⟩ := hg 0 hpos
     have := World.cell?_spot hy
     simpa [Addr.add] using this
    obtain ⟨rows, hrl, hrows⟩ := choose_idx (fun i r => wt T n e r ∧ ∃ ces, W.cells? base (a.add (i * (T.at e).size)) (T.at e).size = some ces ∧ RelP1 (memOf W) r ces) len (fun i hi => by
     obtain ⟨ces, r, h1, h2, h3⟩ := one_elem (i := i) (l := elems) (k := i) (by omega) (helem i hi)
     exact ⟨r, h2, ces, h1, h3⟩)
    refine ⟨[.sl none (T.at e).size rows], ⟨rows, rfl, by omega, fun r hr => ?_⟩, RelP1.single rfl ?_⟩
    ·obtain ⟨i, hi, rfl⟩ := List.mem_iff_getElem.1 hr
     exact (hrows i _ (List.getElem?_eq_getElem hi)).1
    ·unfold RelP
     refine ⟨some a, cap, by rw [hrl], by omega, fun h => (by cases h), fun h => (by cases h), .inr ⟨a, rfl, hsp, RelPR.mk' fun i r hi => ?_⟩⟩
     obtain ⟨_, ces, h1, h2⟩ := hrows i r hi
     obtain ⟨hl, hg⟩ := cells?_get h1
     have hi' := (List.getElem?_eq_some_iff.1 hi).1
     have has := hsp (by omega)
     refine ⟨by rw [h2.len, hl], RelPC.of1 h2 fun j v hj => ?_⟩
     obtain ⟨y, hy1, hy2⟩ := hg j (by rw [← hl]; exact (List.getElem?_eq_some_iff.1 hj).1)
     rw [hj] at hy1; injection hy1 with hy1; subst hy1
     have e1 : (a.add (i * (T.at e).size)).add j = ⟨a.block, a.off + i * (T.at e).size + j, none⟩ := by
      rw [addr_spot has, addr_spot rfl]
     rw [e1] at hy2
     exact hy2
  | st fs =>
   cases u <;> simp [tdMatch] at hm
   rename_i fields
   subst hm
   simp only [Bool.and_eq_true, List.all_eq_true, List.contains_iff_mem] at hc
   obtain ⟨htile, hmem⟩ := hc
   obtain ⟨xs, n', hn, _, hlen, _, hf⟩ := DataW.trod_struct hu h
   injection hn with hn; subst hn
   rw [hcell] at hlen
   obtain ⟨ps, hps, hwf⟩ := tile_rel (T := T) (Φ := memOf W) (n := n) (cs := cs) hlen (fun _ _ _ => trivial) _ 0 htile (Nat.zero_le _) (fun f hfm => by
    obtain ⟨i, hi, rfl⟩ := List.mem_iff_getElem.1 hfm
    simp only [List.length_map, Array.length_toList] at hi
    have hfi : fields[i]? = some fields[i] := Array.getElem?_eq_getElem hi
    have hq := hf i _ hfi
    have hmm := hmem _ hfm
    simp only [List.getElem_map, Array.getElem_toList] at hmm ⊢
    have hfno : (T.at fields[i].type).d ≠ .other := by
     intro e'
     have := List.all_eq_true.1 hL _ hmm
     rw [e'] at this; cases this
    rw [hT.cells hfno] at hq
    have hxl : i < xs.length := by omega
    rw [List.getElem?_eq_getElem hxl] at hq
    obtain ⟨p, hp1, hp2⟩ := trod_wt hT hL n _ _ _ hmm hq
    exact ⟨p, hp1, hp2, by rw [← hp2.len]; exact wt_len hL hmm hp1⟩)
   rw [List.drop_zero] at hps
   refine ⟨ps, ⟨by rw [hps.len, hlen], fun f hf' => ?_⟩, hps⟩
   have := (hwf f hf').2
   simpa using this
  | _ => simp at hc
def argOf (T : Tab) (t : TypeId) (ps : List PV) : AV :=
 match (T.at t).d with
 | .st _ => .p (.agg ps)
 | _ => match ps with
  | [p] => .p p
  | _ => .undef
def argsOf (T : Tab) : List TypeId → List (List PV) → List AV
 | t :: ts, ps :: pss => argOf T t ps :: argsOf T ts pss
 | _, _ => []
def wtAll (T : Tab) : List TypeId → List (List PV) → Prop
 | [], pss => pss = []
 | t :: ts, pss => ∃ ps r, pss = ps :: r ∧ (∃ n, wt T n t ps) ∧ wtAll T ts r
def RelArgs (Φ : Mem) : List AV → List Value → Prop
 | [], Vs => Vs = []
 | a :: as, Vs => ∃ V r, Vs = V :: r ∧ (∃ p, a = .p p ∧ RelP Φ p V) ∧ RelArgs Φ as r
theorem RelArgs.get {Φ : Mem} : ∀ {as : List AV} {Vs : List Value}, RelArgs Φ as Vs → as.length = Vs.length ∧ ∀ (i : Nat) a, as[i]? = some a → ∃ V p, Vs[i]? = some V ∧ a = .p p ∧ RelP Φ p V
 | [], Vs, h => by unfold RelArgs at h; subst h; exact ⟨rfl, fun i a h => by simp at h⟩
 | a :: as, Vs, h => by
  unfold RelArgs at h
  obtain ⟨V, r, rfl, ⟨p, hp, hr⟩, hrest⟩ := h
  obtain ⟨h1, h2⟩ := hrest.get
  refine ⟨by simp [h1], fun i a' hi => ?_⟩
  cases i with
  | zero => simp at hi; subst hi; exact ⟨V, p, by simp, hp, hr⟩
  | succ i => simp at hi; simpa using h2 i a' hi
theorem arg_rel (hT : TabOk P T) {L : List TypeId} (hL : closedB T L = true) {W : World} {base : Nat} {t : TypeId} (ht : t ∈ L) {v : Value} {d : DataW Hd} {ps : List MemPlace} (hval : Value.okWide P W .any base t v) (h : DataW.Trod enc P W 0 (fun _ => true) true t v d ps) :
 ∃ pcs, (∃ n, wt T n t pcs) ∧ ∃ p, argOf T t pcs = .p p ∧ RelP (memOf W) p v := by
 obtain ⟨n, hn⟩ := h
 obtain ⟨pcs, hw, hr⟩ := trod_wt hT hL n t _ _ ht hn
 have hc := List.all_eq_true.1 hL t ht
 have hno : (T.at t).d ≠ .other := by intro e; rw [e] at hc; cases hc
 obtain ⟨i, u, hi, hu, hs1, hs2, hm, _⟩ := (hT.ty t hno).out
 refine ⟨pcs, ⟨n, hw⟩, ?_⟩
 have hlen := wt_len hL ht hw
 have one_cell : (∀ cs, v ≠ .agg cs) → (T.at t).size = 1 → ∃ p, (match pcs with | [p] => AV.p p | _ => .undef) = .p p ∧ RelP (memOf W) p v := by
  intro hv h1
  have hcl : v.cells.toList = [v] := by
   cases v <;> first | rfl | exact absurd rfl (hv _)
  rw [hcl] at hr
  match pcs, hlen with
  | [p], _ =>
   unfold RelP1 at hr
   obtain ⟨u', us, e, _, hrp, _⟩ := hr
   injection e with e1 e2; subst e1
   exact ⟨p, rfl, hrp⟩
  | [], h => rw [h1] at h; cases h
  | _ :: _ :: _, h => rw [h1] at h; simp at h
 unfold argOf
 unfold Value.okWide at hval
 rw [hu] at hval
 generalize hd : (T.at t).d = d at hc hm hno ⊢
 cases d with
 | st fs =>
  cases u <;> simp [tdMatch] at hm
  obtain ⟨cs, rfl, _, _⟩ := hval
  refine ⟨.agg pcs, rfl, ?_⟩
  unfold RelP
  exact ⟨cs.toList, by simp, hr⟩
 | int k =>
  cases u <;> simp [tdMatch] at hm
  simp at hc
  refine one_cell (fun cs e => ?_) hc
  subst e
  simp [Cell.okWide, hu, Cell.ok] at hval
 | bool =>
  cases u <;> simp [tdMatch] at hm
  simp at hc
  refine one_cell (fun cs e => ?_) hc
  subst e
  simp [Cell.okWide, hu, Cell.ok] at hval
 | str =>
  cases u <;> simp [tdMatch] at hm
  simp at hc
  refine one_cell (fun cs e => ?_) hc
  subst e
  simp [Cell.okWide, hu, Cell.ok] at hval
 | sl e =>
  cases u <;> simp [tdMatch] at hm
  simp at hc
  refine one_cell (fun cs e => ?_) hc.1.1
  subst e
  simp [Cell.okWide, hu, Cell.ok] at hval
 | _ => simp at hc
theorem args_rel (hT : TabOk P T) {L : List TypeId} (hL : closedB T L = true) {W : World} {base : Nat} : ∀ {ts : List TypeId} {vs : List Value} {ds : List (DataW Hd)} {ps : List MemPlace}, (∀ t, t ∈ ts → t ∈ L) →
 (∀ (j : Nat) t v, ts[j]? = some t → vs[j]? = some v → Value.okWide P W .any base t v) → DataW.TrodAll enc P W 0 (fun _ => true) true ts vs ds ps →
 ∃ pss, wtAll T ts pss ∧ RelArgs (memOf W) (argsOf T ts pss) vs ∧ ds.length = ts.length
 | [], vs, ds, ps, _, _, h => by
  obtain ⟨rfl, rfl, rfl⟩ := trodAll_nil h
  exact ⟨[], rfl, rfl, rfl⟩
 | t :: ts, vs, ds, ps, htl, hval, h => by
  obtain ⟨v, vs1, d, ds1, a, b, rfl, rfl, rfl, h1, h2⟩ := trodAll_cons h
  obtain ⟨pcs, hw, p, hp, hr⟩ := arg_rel hT hL (htl t (by simp)) (hval 0 t v rfl rfl) h1
  obtain ⟨pss, hws, hrs, hl⟩ := args_rel hT hL (fun t' h' => htl t' (List.mem_cons_of_mem t h')) (fun j t' v' h' k' => hval (j + 1) t' v' (by simpa using h') (by simpa using k')) h2
  exact ⟨pcs :: pss, ⟨pcs, pss, rfl, hw, hws⟩, ⟨v, vs1, rfl, ⟨p, hp, hr⟩, hrs⟩, by simp [hl]⟩
theorem trodAll_keep (hl : laidOutB P = true) {W W' : World} {sp : Nat → Bool} : ∀ {ts : List TypeId} {vs : List Value} {ds : List (DataW Hd)} {ps : List MemPlace}, ts.all (fun t => P.readableRec t && decide (t < P.types.size)) = true →
 DataW.TrodAll enc P W 0 (fun _ => true) true ts vs ds ps → (∀ p ∈ ps, W.sameAt W' p) → (∀ p ∈ ps, sp p.block = true) → DataW.TrodAll enc P W' 0 sp true ts vs ds ps
 | [], vs, ds, ps, _, h, _, _ => by
  obtain ⟨rfl, rfl, rfl⟩ := trodAll_nil h
  exact h
 | t :: ts, vs, ds, ps, hr, h, hs, hsp => by
  simp only [List.all_cons, Bool.and_eq_true, decide_eq_true_eq] at hr
  obtain ⟨v, vs1, d, ds1, a, b, rfl, rfl, rfl, h1, h2⟩ := trodAll_cons h
  exact ⟨a, b, WideElems.Trod_stays hl hr.1.1 hr.1.2 h1 (fun p hp => hs p (List.mem_append_left _ hp)) (fun p hp => hsp p (List.mem_append_left _ hp)),
   trodAll_keep hl (by simpa [List.all_eq_true] using hr.2) h2 (fun p hp => hs p (List.mem_append_right _ hp)) (fun p hp => hsp p (List.mem_append_right _ hp)), rfl⟩
end
section
variable {Hd : Type} {enc : TypeId × Value → Hd} {P : Program} {ty : List TI} {GL : List (Nat × List PV)} {C : CallF}
theorem inv_start {W : World} {as : List AV} {Args : Array Value} (hr : RelArgs (memOf W) as Args.toList) (hg : ∀ k cs, globOf GL k = some cs → RelPC (memOf W) cs k 0) :
 Inv GL W.heap.size W (G.mk (memOf W) (fun _ => 0) [] (fun _ => none)) (envOf 0 as) [] Args W := by
 obtain ⟨h1, h2⟩ := hr.get
 refine ⟨Below.refl _ _, Nat.le_refl _, fun b o u h => h, (fun b pl h => by cases h), (fun b pl h => by cases h), fun t => ?_, (fun id o h => by simp at h), rfl, hg, (fun id e h => by simp at h)⟩
 rw [get_envOf, if_pos (Nat.zero_le _), Nat.sub_zero]
 cases ht : as[t]? with
 | none =>
  simp only [Option.getD_none]
  unfold RelS RelA; trivial
 | some a =>
  obtain ⟨V, p, hV, rfl, hrp⟩ := h2 t a ht
  simp only [Option.getD_some]
  have : Args.getD t undef = V := by
   rw [Array.getD_eq_getD_getElem?]
   rw [Array.getElem?_toList] at hV
   rw [hV]; rfl
  rw [this]
  exact RelS.of_A (by unfold RelA; exact hrp)
theorem law_calls (hC : CallSim P GL C) {f : FuncId} {W : World} {as : List AV} {Args : Array Value} (hr : RelArgs (memOf W) as Args.toList) (hg : ∀ k cs, globOf GL k = some cs → RelPC (memOf W) cs k 0)
 {σ' : List AObj} (h : C (.fn f) as [] = some (.ret (.p (.lit (.bool true))), σ')) : Calls P f Args W fun e w' => e = .returned (.bool true) ∧ Below W.heap.size W w' := by
 obtain ⟨_, hcalls⟩ := hC.fn f as [] _ _ h W.heap.size W _ Args W (inv_start hr hg) (by simpa using hr.get.1)
 refine hcalls.mono fun e w' ⟨V, g', he, hI, _⟩ => ?_
 have := hI.env 0
 have hv : V = .bool true := by
  have : RelA g' (fun b => g'.tag b = some (.slot 0)) (.p (.lit (.bool true))) V := this
  unfold RelA RelP at this
  exact this.1
 subst hv
 exact ⟨he, hI.below⟩
theorem post_same {f : Func} {s : ChangeSpec} {apart fresh handsOn again : Bool} {W W' : World} {args : Array Value} {v : Value} {ds gs : List (DataW Hd)} {before pa pv : List MemPlace}
 (hW : DataW.Whole enc P f.params.toList s.vars apart W args.toList ds gs before) (hb : Below W.heap.size W W')
 (hres : ∀ (b : Nat) (sp : Nat → Bool) (hd : Bool), DataW.TrodAll enc P W' b sp hd f.resultTypes.toList (v.resultList f.resultTypes.size) (s.fn Hd (ds ++ gs)).results [])
 (hargs : ∀ sp : Nat → Bool, (∀ p ∈ before, sp p.block = true) → DataW.TrodAll enc P W' 0 sp true f.params.toList args.toList (s.fn Hd (ds ++ gs)).args pa)
 (hvars : ∀ sp : Nat → Bool, (∀ p ∈ before, sp p.block = true) → DataW.TrodVars enc P W' sp s.vars (s.fn Hd (ds ++ gs)).vars pv)
 (hps : before = pa ++ pv)
 (hok : ∀ (j : Nat) (t : TypeId) (r : Value), f.resultTypes[j]? = some t → (v.resultList f.resultTypes.size)[j]? = some r → Value.okWide P W' .any 0 t r) :
 s.post enc P f apart fresh handsOn again W args v W' := by
 have hlt : ∀ p ∈ before, p.block < W.heap.size := fun p hp => hW.lt p hp
 have hold : ∀ p ∈ before, (fun b => decide (b < W.heap.size)) p.block = true := fun p hp => by simpa using hlt p hp
 refine ⟨ds, gs, before, [], pa, pv, hW, hres _ _ _, hargs _ hold, hvars _ hold, World.keptBut_mono (fun p hp => ⟨hp, ?_⟩) (hb.frame (· ∈ before)), fun _ => ?_⟩
 ·rw [hps, List.mem_append] at hp
  exact Or.inr hp
 ·obtain ⟨_, _, _, _, _, hz, hn⟩ := hW
  refine ⟨hok, _, _, ([] ++ pa) ++ pv, ⟨[] ++ pa, pv, trodAll_append (hargs _ (fun _ _ => rfl)) (hres _ _ _), hvars _ (fun _ _ => rfl), rfl, ?_, ?_⟩, ?_⟩
  ·intro b off hp
   have hp' : MemPlace.cell b off ∈ before := by rw [hps]; simpa using hp
   rw [hb.frozen (hlt _ hp')]
   exact hz b off hp'
  ·intro ha
   have := hn ha
   rw [hps] at this
   simpa using this
  ·intro p hp _
   rw [hps]
   simpa using hp
theorem law_contract (hT : TabOk P ⟨ty, GL⟩) (hC : CallSim P GL C) {f : FuncId} {fn : Func} {s : ChangeSpec} {apart fresh handsOn again : Bool} {L : List TypeId} (hL : closedB ⟨ty, GL⟩ L = true) (hts : fn.params.toList.all L.contains = true)
 (hlo : laidOutB P = true) (hread : fn.params.toList.all (fun t => P.readableRec t && decide (t < P.types.size)) = true) {tb : TypeId} (hres : fn.resultTypes = #[tb]) (htb : P.underlying tb = some .bool)
 (hvars : s.vars = []) (hfn : ∀ (H : Type) (ds : List (DataW H)), ds.length = fn.params.toList.length → s.fn H ds = { results := [.lit (.bool true)], args := ds })
 (law : ∀ pss, wtAll ⟨ty, GL⟩ fn.params.toList pss → ∃ σ', C (.fn f) (argsOf ⟨ty, GL⟩ fn.params.toList pss) [] = some (.ret (.p (.lit (.bool true))), σ'))
 (W : World) (base : Nat) (args : Array Value) (ds gs : List (DataW Hd)) (before : List MemPlace)
 (hval : ∀ (j : Nat) t v, fn.params[j]? = some t → args[j]? = some v → Value.okWide P W .any base t v)
 (hW : DataW.Whole enc P fn.params.toList s.vars apart W args.toList ds gs before) (hgl : ∀ k cs, globOf GL k = some cs → RelPC (memOf W) cs k 0) :
 Calls P f args W fun e W' => ∃ v, e = .returned v ∧ s.post enc P fn apart fresh handsOn again W args v W' := by
 have hW' := hW
 obtain ⟨p, q, hA, hV, rfl, hfz, hnd⟩ := hW
 rw [hvars] at hV
 obtain ⟨rfl, rfl⟩ := trodVars_none hV
 obtain ⟨pss, hw, hrel, hlen⟩ := args_rel hT hL (base := base) (fun t ht => by simpa using List.all_eq_true.1 hts t ht) (fun j t v hj hv => hval j t v (by simpa using hj) (by simpa using hv)) hA
 obtain ⟨σ', hlaw⟩ := law pss hw
 refine (law_calls hC hrel hgl hlaw).mono fun e W' ⟨he, hb⟩ => ?_
 subst he
 have hds := hfn Hd ds hlen
 simp only [List.append_nil] at hW'
 have hlt : ∀ x ∈ p, x.block < W.heap.size := fun x hx => hW'.lt x hx
 refine ⟨_, rfl, post_same (pa := p) (pv := []) hW' hb (fun b sp hd => ?_) (fun sp hsp => ?_) (fun sp _ => ?_) (by simp) ?_⟩
 ·rw [List.append_nil, hds, hres]
  exact trodAll_cons_mk (shut_bool htb _) trodAll_mk0
 ·rw [List.append_nil, hds]
  exact trodAll_keep hlo hread hA (fun x hx => hb.same (hlt x hx)) hsp
 ·rw [List.append_nil, hds, hvars]
  rfl
 ·exact ok_one hres rfl (okWide_bool_mk htb _)
theorem laid_ints {P : Program} {W : World} {name : String} {g t ts e : Nat} {f0 : Field} {zs : List Int} (hg : P.globalNamed name = some g) (hty : (P.globals[g]?).map (·.type) = some t) (ht : P.underlying t = some (.struct #[f0])) (hf : f0.type = ts ∧ f0.offset = 0)
 (hts : P.underlying ts = some (.slice e)) (he : P.underlying e = some (.int .i64)) (c1 : P.cellsOf t = 1) (c2 : P.cellsOf ts = 1) (c3 : P.cellsOf e = 1) (hz : zs ≠ [])
 (h : laidMetH P [(name, .agg [.slice (zs.map fun z => .lit (.int .i64 z)) []])] W) : RelPC (memOf W) [.sl none 1 (zs.map fun z => [.lit (.int .i64 z)])] g 0 := by
 have h' : laidMet P [(name, .agg [.slice (zs.map fun z => .lit (.int .i64 z)) []])] W := h
 obtain ⟨ps, ⟨g', t', cs, fuel, p, q, hg', hty', hvar, hd, _, _⟩, _⟩ := h'
 obtain rfl := Option.some.inj (hg.symm.trans hg')
 obtain rfl := Option.some.inj (hty.symm.trans hty')
 obtain ⟨xs, n, hn, hx, hl, hxl, hf'⟩ := DataW.trod_struct ht hd
 have hq := hf' 0 f0 rfl
 rw [hf.1, hf.2, c2, List.drop_zero] at hq
 rw [c1] at hl
 have hx1 : xs.length = 1 := by rw [hxl]; rfl
 match xs, hx1 with
 | [y], _ =>
  injection hx with hx1 hx2
  injection hx1 with hx1
  simp only [List.map_cons, List.map_nil, List.cons.injEq, and_true] at hx1
  have hcs : ∃ V, cs.toList = [V] := by
   match hc : cs.toList, hl with
   | [V], _ => exact ⟨V, rfl⟩
  obtain ⟨V, hV⟩ := hcs
  rw [hV] at hq
  have hq' : DataW.trod (fun _ => ()) P W 0 (fun _ => true) false n ts [V] = some y := by simpa using hq
  rcases DataW.trod_slice hts hq' with ⟨_, e2⟩ | ⟨a, len, cap, elems, rest, n', hn', e1, e2, hb, hlc, hcm, hel, helem, hrest, _⟩
  ·rw [e2] at hx1; cases hx1
  ·injection e1 with e1 _
   rw [e2] at hx1
   injection hx1 with hx3 hx4
   rw [c3] at helem
   have hlen : zs.length = len := by rw [← hel]; have := congrArg List.length hx3; simpa using this
   have one : ∀ i, i < len → ∃ z, zs[i]? = some z ∧ W.cell? (a.add i) = some (.int .i64 z) := by
    intro i hi
    have h1 := helem i hi
    rw [List.getElem?_eq_getElem (by omega)] at h1
    obtain ⟨ces, h2, h3⟩ := Option.bind_eq_some_iff.1 h1
    obtain ⟨z, hz1, hz2, _⟩ := DataW.trod_int he h3
    obtain ⟨hcl, hcg⟩ := cells?_get h2
    obtain ⟨v, hv1, hv2⟩ := hcg 0 (by omega)
    rw [hz1] at hv1
    injection hv1 with hv1
    subst hv1
    have e5 : (a.add (i * 1)).add 0 = a.add i := by rw [Nat.mul_one]; unfold Addr.add; rfl
    rw [e5] at hv2
    refine ⟨z, ?_, hv2⟩
    have h6 : (zs.map fun z => (DataW.lit (.int .i64 z) : DataW Unit))[i]? = (elems.map (·.1))[i]? := by rw [hx3]
    rw [List.getElem?_map, List.getElem?_map, List.getElem?_eq_getElem (by omega : i < elems.length), hz2] at h6
    cases h7 : zs[i]? with
    | none => rw [h7] at h6; cases h6
    | some z' =>
     rw [h7] at h6
     simp at h6
     rw [h6]
   have hpos : 0 < len := by rw [← hlen]; exact List.length_pos_iff.2 hz
   have hsp : a.spot = none := by
    obtain ⟨z, _, h2⟩ := one 0 hpos
    have := World.cell?_spot h2
    simpa [Addr.add] using this
   unfold RelPC
   refine ⟨⟨V, ?_, by rw [e1]; rfl, ?_⟩, by unfold RelPC; trivial⟩
   ·have := World.var?_cell hg hvar 0
    show W.cell? ⟨g, 0, none⟩ = some V
    rw [this, ← Array.getElem?_toList, hV]; rfl
   ·rw [e1]
    unfold RelP
    refine ⟨some a, cap, by rw [List.length_map, hlen], by simp; omega, fun h => (by cases h), fun h => (by cases h), .inr ⟨a, rfl, fun _ => hsp, RelPR.mk' fun i r hi => ?_⟩⟩
    rw [List.getElem?_map] at hi
    obtain ⟨z, hz1, rfl⟩ := Option.map_eq_some_iff.1 hi
    have hi' := (List.getElem?_eq_some_iff.1 hz1).1
    obtain ⟨z', h1, h2⟩ := one i (by omega)
    rw [hz1] at h1; injection h1 with h1; subst h1
    refine ⟨rfl, ?_⟩
    unfold RelPC
    refine ⟨⟨_, ?_, rfl, by unfold RelP; exact ⟨rfl, rfl⟩⟩, by unfold RelPC; trivial⟩
    rw [addr_spot hsp] at h2
    rw [Nat.mul_one]; exact h2
end
end Go.AM
