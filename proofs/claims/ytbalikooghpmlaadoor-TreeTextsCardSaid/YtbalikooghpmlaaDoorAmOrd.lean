/- A part of the abstract machine and its simulation. -/
import Derived.Test.YtbalikooghpmlaaDoorAmComm
import Derived.Orders
set_option linter.unusedVariables false
set_option linter.unusedSimpArgs false
namespace Go.AM
open Go
theorem Eqv.refl (s : S) : Eqv s s := ⟨fun _ => rfl, rfl⟩
theorem Eqv.trans {a b d : S} (h : Eqv a b) (k : Eqv b d) : Eqv a d := ⟨fun t => (k.env t).trans (h.env t), k.σ.trans h.σ⟩
theorem Act1.eqv {R W : List Nat} {p r n l m : Bool} {f : S → Option Rs} (A : Act1 R W p r n l m f) {s s' s1 : S} (he : Eqv s s') (h : f s = some (.ok s1)) : ∃ s1', f s' = some (.ok s1') ∧ Eqv s1 s1' := by
 obtain ⟨s1', h1, hm⟩ := A.loc s s' s1 he.σ (fun t _ => he.env t) h
 refine ⟨s1', h1, fun t => ?_, hm.σ⟩
 by_cases ht : t ∈ W
 ·exact hm.inn t ht
 ·obtain ⟨a, b⟩ := hm.out t ht
  rw [a, b]; exact he.env t
noncomputable def runG (c : Cx) (all : List Oper) : List Oper → S → Option Rs
 | [], s => some (.ok s)
 | o :: os, s => thenR (runG c all os) (stepG c all o s)
def dstOk (h : FH) (o : Oper) : Prop := ∀ d, o.dst = some d → d ∈ wOf h o
section
variable {c : Cx} {all : List Oper}
theorem runG_cons {o : Oper} {os : List Oper} {s s2 : S} : runG c all (o :: os) s = some (.ok s2) ↔ ∃ s1, stepG c all o s = some (.ok s1) ∧ runG c all os s1 = some (.ok s2) := by
 rw [runG]
 constructor
 ·intro h
  cases h1 : stepG c all o s with
  | none => rw [h1] at h; cases h
  | some r =>
   rw [h1] at h
   cases r with
   | ok s1 => exact ⟨s1, rfl, h⟩
   | pan v s1 => injection h with h; cases h
 ·rintro ⟨s1, h1, h2⟩
  rw [h1]; exact h2
theorem runG_eqv : ∀ {os : List Oper} {s s' s2 : S}, (∀ o ∈ os, dstOk c.h o) → Eqv s s' → runG c all os s = some (.ok s2) → ∃ s2', runG c all os s' = some (.ok s2') ∧ Eqv s2 s2'
 | [], s, s', s2, _, he, h => by injection h with h; injection h with h; subst h; exact ⟨s', rfl, he⟩
 | o :: os, s, s', s2, hd, he, h => by
  obtain ⟨s1, h1, h2⟩ := runG_cons.1 h
  obtain ⟨s1', h3, e1⟩ := (act_g c all o (hd o (by simp))).eqv he h1
  obtain ⟨s2', h4, e2⟩ := runG_eqv (fun x hx => hd x (List.mem_cons_of_mem o hx)) e1 h2
  exact ⟨s2', runG_cons.2 ⟨s1', h3, h4⟩, e2⟩
theorem move_front {x : Oper} {post : List Oper} : ∀ {pre : List Oper} {s s2 : S}, (∀ o ∈ pre ++ x :: post, dstOk c.h o) → (∀ y ∈ pre, pairG c all y x = true) → runG c all (pre ++ x :: post) s = some (.ok s2) →
 ∃ s2', runG c all (x :: (pre ++ post)) s = some (.ok s2') ∧ Eqv s2 s2'
 | [], s, s2, _, _, h => ⟨s2, h, Eqv.refl _⟩
 | y :: pre, s, s2, hd, hp, h => by
  obtain ⟨s1, h1, h2⟩ := runG_cons.1 h
  obtain ⟨s3, h3, e3⟩ := move_front (pre := pre) (fun o ho => hd o (List.mem_cons_of_mem y ho)) (fun z hz => hp z (List.mem_cons_of_mem y hz)) h2
  obtain ⟨s4, h4, h5⟩ := runG_cons.1 h3
  obtain ⟨a, b, k1, k2, ek⟩ : ∃ a b, stepG c all x s = some (.ok a) ∧ stepG c all y a = some (.ok b) ∧ Eqv s4 b := by
   have hq := hp y (by simp)
   unfold pairG at hq
   rcases Bool.or_eq_true _ _ ▸ hq with hq | hq
   ·rcases Bool.or_eq_true _ _ ▸ hq with hq | hq
    ·rcases Bool.or_eq_true _ _ ▸ hq with hq | hq
     ·rcases Bool.or_eq_true _ _ ▸ hq with hq | hq
      ·rcases Bool.or_eq_true _ _ ▸ hq with hq | hq
       ·exact commute_os hq h1 h4
       ·exact commute_rk (hd y (by simp)) (hd x (by simp)) hq h1 h4
      ·exact commute_zk hq h1 h4
     ·exact commute_cc hq h1 h4
    ·exact commute_fr hq h1 h4
   ·exact commute (act_g c all y (hd y (by simp))) (act_g c all x (hd x (by simp))) hq h1 h4
  have hd' : ∀ o ∈ pre ++ post, dstOk c.h o := fun o ho => hd o (by
   rcases List.mem_append.1 ho with h | h
   ·exact List.mem_cons_of_mem y (List.mem_append_left _ h)
   ·exact List.mem_cons_of_mem y (List.mem_append_right _ (List.mem_cons_of_mem x h)))
  obtain ⟨s5, h6, e6⟩ := runG_eqv hd' ek h5
  exact ⟨s5, runG_cons.2 ⟨a, k1, runG_cons.2 ⟨b, k2, h6⟩⟩, e3.trans e6⟩
theorem eqv_know {s : S} {d : Nat} {v : AV} (h : get s.env d = v) : Eqv (s.put (some d) v) s := by
 refine ⟨fun t => ?_, rfl⟩
 show get s.env t = get ((d, v) :: s.env) t
 simp only [get, beq_iff_eq]
 split
 ·rename_i e; subst e; exact h
 ·rfl
theorem eqv_put {s s' : S} (he : Eqv s s') (d : Option Nat) (v : AV) : Eqv (s.put d v) (s'.put d v) := by
 refine ⟨fun t => ?_, he.σ⟩
 cases d with
 | none => exact he.env t
 | some d =>
  show get ((d, v) :: s'.env) t = get ((d, v) :: s.env) t
  simp only [get]
  split
  ·rfl
  ·exact he.env t
theorem runG_of : ∀ {os : List Oper} {s s1 : S}, (∀ o ∈ os, dstOk c.h o) → stepOps c all os s = some (.ok s1) → ∃ s1', runG c all os s = some (.ok s1') ∧ Eqv s1 s1'
 | [], s, s1, _, h => ⟨s1, h, Eqv.refl _⟩
 | o :: os, s, s1, hd, h => by
  have hd' := fun x hx => hd x (List.mem_cons_of_mem o hx)
  have A := act_op c o
  have go : ∀ {s0 : S}, Eqv s0 s → (∀ r, stepOp c o s = r → stepG c all o s = r) → thenR (stepOps c all os) (stepOp c o s0) = some (.ok s1) → ∃ s1', runG c all (o :: os) s = some (.ok s1') ∧ Eqv s1 s1' := by
   intro s0 he hg h
   cases h1 : stepOp c o s0 with
   | none => rw [h1] at h; cases h
   | some r =>
    rw [h1] at h
    cases r with
    | pan v s2 => injection h with h; cases h
    | ok s2 =>
     obtain ⟨s2', h2, e2⟩ := A.eqv he h1
     obtain ⟨s3, h3, e3⟩ := runG_of hd' h
     obtain ⟨s4, h4, e4⟩ := runG_eqv hd' e2 h3
     exact ⟨s4, runG_cons.2 ⟨s2', hg _ h2, h4⟩, e3.trans e4⟩
  have hgd : ∀ d b want, guardOf all s.env o = some (some (d, b, want)) → (∀ v, b = some v → get s.env d = .p (.lit (.bool v))) ∧ (b = none → get s.env d = udV) := by
   intro d b want hg
   unfold guardOf at hg
   split at hg
   ·injection hg with hg; cases hg
   ·split at hg
    ·split at hg
     ·split at hg
      ·rename_i hb
       injection hg with hg; injection hg with hg
       have q1 := Prod.mk.inj hg
       have q2 := Prod.mk.inj q1.2
       rw [← q1.1, hb, ← q2.1]
       exact ⟨fun v e => by injection e with e; rw [e], fun e => by cases e⟩
      ·rename_i hb
       injection hg with hg; injection hg with hg
       have q1 := Prod.mk.inj hg
       have q2 := Prod.mk.inj q1.2
       rw [← q1.1, hb, ← q2.1]
       exact ⟨fun v e => (by cases e), fun _ => rfl⟩
      ·cases hg
     ·cases hg
    ·cases hg
  unfold stepOps at h
  split at h
  ·cases h
  ·rename_i hg
   exact go (Eqv.refl s) (fun r hr => by unfold stepG; rw [hg]; exact hr) h
  ·rename_i d b want hg
   have hk := hgd d b want hg
   split at h
   ·rename_i hb
    have hk1 := hk.1 want hb
    subst hb
    exact go (eqv_know hk1) (fun r hr => by unfold stepG; rw [hg]; simp only [if_true]; exact hr) h
   ·rename_i hb
    have hk2 : get s.env d = gv b want := by
     cases b with
     | none => exact hk.2 rfl
     | some b' =>
      have hnb : (!want) = b' := by
       have : ¬ b' = want := fun e => hb (by rw [e])
       cases b' <;> cases want <;> simp_all
      show _ = AV.p (.lit (.bool !want))
      rw [hnb]; exact hk.1 b' rfl
    obtain ⟨s3, h3, e3⟩ := runG_of hd' h
    obtain ⟨s4, h4, e4⟩ := runG_eqv hd' (eqv_put (eqv_know hk2) o.dst udV) h3
    exact ⟨s4, runG_cons.2 ⟨_, by unfold stepG; rw [hg]; simp only [if_neg hb], h4⟩, e3.trans e4⟩
end
end Go.AM
namespace Go.AM
open Go Go.RowKit
section
variable {GL : List (Nat × List PV)} {B0 : Nat} {w0 : World} {ty : List TI} {P : Program} {H : FuncId → FH} {C : CallF} {h : FH} {base : Nat} {ro : Option Nat}
theorem ops_wpG (hT : TabOk P ⟨ty, GL⟩) (hC : CallSim P GL C) (hG0 : ∀ f args v σ', (H f).pu = true → C (.fn f) args [] = some (.ret v, σ') → ltV 0 v = true) {N : Nat} (ops : Array Oper) (hok : ∀ (i : Nat) o, ops[i]? = some o → opOk N o = true) {a0 : Act} {g0 : G} {w00 : World} {s' : S} {Q : Exit → Act → World → Prop} (hQ : ∀ g' (a' : Act) w', Inv GL B0 w0 g' s'.env s'.σ a'.tmps w' → Post g0 w00 g' w' → a'.tmps.size = a0.tmps.size → a'.defers = a0.defers → Q .normal a' w') :
 ∀ (l : List Nat) (os : List Oper) (s : S) (a : Act) (g : G) (w : World), l.map (fun i => ops[i]?) = os.map some → N ≤ a.tmps.size → Inv GL B0 w0 g s.env s.σ a.tmps w → Post g0 w00 g w → a.tmps.size = a0.tmps.size → a.defers = a0.defers →
  runG ⟨⟨ty, GL⟩, H, C, h, base⟩ ops.toList os s = some (.ok s') → wpOpsIn (FW ro) 0 P ops Q l a w
 | [], os, s, a, g, w, hl, hN, hI, hP, hsz, hdf, hs => by
  have : os = [] := by simpa using hl.symm
  subst this
  injection hs with hs; injection hs with hs; subst hs
  exact hQ g a w hI hP hsz hdf
 | i :: l, [], s, a, g, w, hl, hN, hI, hP, hsz, hdf, hs => by simp at hl
 | i :: l, o :: os, s, a, g, w, hl, hN, hI, hP, hsz, hdf, hs => by
  simp only [List.map_cons, List.cons.injEq] at hl
  obtain ⟨hoi, hl'⟩ := hl
  have hoo := hok i o hoi
  have hdd : ∀ d', o.dst = some d' → d' < a.tmps.size := fun d e => by
   unfold opOk at hoo
   simp only [e, Bool.and_eq_true, decide_eq_true_eq] at hoo
   exact Nat.lt_of_lt_of_le hoo.1.1 hN
  obtain ⟨s1, h1, h2⟩ := runG_cons.1 hs
  simp only [wpOpsIn, hoi]
  have taken : stepOp ⟨⟨ty, GL⟩, H, C, h, base⟩ o s = some (.ok s1) → o.wpIn (FW ro) 0 P a w (wpOpsIn (FW ro) 0 P ops Q l) Q := fun hst =>
   op_wp hT hC hG0 hN hoo hI hst (fun a' w' g' hI2 hP2 hz hd2 => ops_wpG hT hC hG0 ops hok hQ l os s1 a' g' w' hl' (by rw [hz]; exact hN) hI2 (hP.trans hP2) (hz.trans hsz) (hd2.trans hdf) h2)
  unfold stepG at h1
  split at h1
  ·cases h1
  ·rename_i hgo
   have hg : o.guard = none := by
    unfold guardOf at hgo
    split at hgo
    ·assumption
    ·split at hgo
     ·split at hgo
      ·split at hgo <;> cases hgo
      ·cases hgo
     ·cases hgo
   have hw : Region.wanted o (yielded ops a.tmps) = true := by unfold Region.wanted; rw [hg]
   rw [if_pos hw]
   exact (taken h1)
  ·rename_i d b want hgo
   have hw : Region.wanted o (yielded ops a.tmps) = decide (b = some want) := by
    unfold guardOf at hgo
    split at hgo
    ·cases hgo
    ·rename_i j want' hg
     split at hgo
     ·rename_i oj hoj
      split at hgo
      ·rename_i d' hd
       have hr := hI.env d'
       split at hgo
       ·rename_i b' hb
        injection hgo with hgo; injection hgo with hgo
        have q1 := Prod.mk.inj hgo
        have q2 := Prod.mk.inj q1.2
        rw [hb] at hr
        have hv : a.tmps.getD d' Go.undef = .bool b' := by
         have : RelX g (.tmp d') (.p (.lit (.bool b'))) (a.tmps.getD d' Go.undef) := hr
         exact RelP.lit this.pure
        have hy : yielded ops a.tmps j = some b' := by
         unfold yielded
         rw [Array.getElem?_toList] at hoj
         rw [Array.getD_eq_getD_getElem?] at hv
         cases hq : a.tmps[d']? with
         | none => rw [hq] at hv; cases hv
         | some u =>
          rw [hq] at hv
          simp only [Option.getD_some] at hv
          subst hv
          simp [hoj, hd, hq]
        unfold Region.wanted
        rw [hg]
        simp only [hy]
        rw [← q2.1, ← q2.2]
        cases b' <;> cases want' <;> rfl
       ·rename_i hb
        injection hgo with hgo; injection hgo with hgo
        have q1 := Prod.mk.inj hgo
        have q2 := Prod.mk.inj q1.2
        rw [hb] at hr
        have hv : a.tmps.getD d' Go.undef = Go.undef := by
         have : RelX g (.tmp d') (.p (.tup [])) (a.tmps.getD d' Go.undef) := hr
         exact rel_ud_eq this.pure
        have hy : yielded ops a.tmps j = none := by
         unfold yielded
         rw [Array.getElem?_toList] at hoj
         rw [Array.getD_eq_getD_getElem?] at hv
         cases hq : a.tmps[d']? with
         | none => simp [hoj, hd, hq]
         | some u =>
          rw [hq] at hv
          simp only [Option.getD_some] at hv
          subst hv
          simp [hoj, hd, hq, Go.undef]
        unfold Region.wanted
        rw [hg]
        simp only [hy]
        rw [← q2.1]
        rfl
       ·cases hgo
      ·cases hgo
     ·cases hgo
   split at h1
   ·rename_i hb
    rw [hw, if_pos (by simpa using hb)]
    exact (taken h1)
   ·rename_i hb
    rw [hw, decide_eq_false hb, if_neg (by simp)]
    refine ⟨fun _ _ => trivial, ?_⟩
    injection h1 with h1; injection h1 with h1; subst h1
    obtain ⟨e1, e2⟩ := act_put a o.dst Go.undef
    have hI3 := hI.udO hdd
    exact ops_wpG hT hC hG0 ops hok hQ l os _ (a.put o.dst Go.undef) g w hl' (by rw [e1, putT_size]; exact hN) (by rw [e1]; exact hI3) hP (by rw [e1, putT_size]; exact hsz) (e2.trans hdf) h2
end
end Go.AM
namespace Go.AM
open Go
def opsAt (ops : Array Oper) (l : List Nat) : List Oper := l.filterMap fun i => ops[i]?
theorem opsAt_map {ops : Array Oper} : ∀ {l : List Nat}, (∀ i, i ∈ l → i < ops.size) → l.map (fun i => ops[i]?) = (opsAt ops l).map some
 | [], _ => rfl
 | i :: l, h => by
  have hi := h i (by simp)
  have ih := opsAt_map (l := l) (fun j hj => h j (List.mem_cons_of_mem i hj))
  have e : ops[i]? = some ops[i] := Array.getElem?_eq_getElem hi
  unfold opsAt at ih ⊢
  simp only [List.map_cons, List.filterMap_cons, e]
  rw [ih]
def left (ops : Array Oper) (listed : Array Bool) : List Nat := (List.range ops.size).filter fun i => !listed.getD i true
def drawOk (c : Cx) (ops : Array Oper) : Prop :=
 ∀ (i j : Nat) x y, i < j → ops[i]? = some x → ops[j]? = some y → ancB ops ops.size i j = true ∨ pairG c ops.toList x y = true
def edgesBack (ops : Array Oper) : Prop := ∀ (j : Nat) y, ops[j]? = some y → ∀ e ∈ y.after, Region.binds .any e = true → e.on < j
def Closed (ops : Array Oper) (listed : Array Bool) : Prop :=
 ∀ (j : Nat) y, ops[j]? = some y → listed.getD j false = true → ∀ e ∈ y.after, Region.binds .any e = true → listed.getD e.on false = true
theorem mem_left {ops : Array Oper} {listed : Array Bool} {i : Nat} : i ∈ left ops listed ↔ i < ops.size ∧ listed.getD i true = false := by
 unfold left
 rw [List.mem_filter, List.mem_range]
 simp
theorem ready_left {ops : Array Oper} {listed : Array Bool} {i : Nat} (h : i ∈ Region.ready .any ops listed) : i ∈ left ops listed := by
 rw [mem_ready] at h
 obtain ⟨h0, o, ho, _⟩ := h
 exact mem_left.2 ⟨(Array.getElem?_eq_some_iff.1 ho).1, h0⟩
theorem left_ready {ops : Array Oper} (hb : edgesBack ops) {listed : Array Bool} {i : Nat} {l : List Nat} (hs : listed.size = ops.size) (h : left ops listed = i :: l) : i ∈ Region.ready .any ops listed := by
 have hi : i ∈ left ops listed := by rw [h]; simp
 obtain ⟨hlt, h0⟩ := mem_left.1 hi
 rw [mem_ready]
 refine ⟨h0, ops[i], Array.getElem?_eq_getElem hlt, fun e he hbe => ?_⟩
 have hon := hb i _ (Array.getElem?_eq_getElem hlt) e he hbe
 have hsort : (left ops listed).Pairwise (· < ·) := List.Pairwise.filter _ List.pairwise_lt_range
 cases hv : listed.getD e.on false with
 | true => rfl
 | false =>
  exfalso
  have : e.on ∈ left ops listed := mem_left.2 ⟨by omega, by
   have hl : e.on < listed.size := by omega
   simp only [Array.getD_eq_getD_getElem?, Array.getElem?_eq_getElem hl, Option.getD_some] at hv ⊢
   exact hv⟩
  rw [h] at this hsort
  rcases List.mem_cons.1 this with h1 | h1
  ·omega
  ·have := (List.pairwise_cons.1 hsort).1 _ h1
   omega
theorem ready_edge {ops : Array Oper} {listed : Array Bool} {j : Nat} {y : Oper} (h : j ∈ Region.ready .any ops listed) (hy : ops[j]? = some y) : ∀ e ∈ y.after, Region.binds .any e = true → listed.getD e.on false = true := by
 rw [mem_ready] at h
 obtain ⟨_, o, ho, ha⟩ := h
 rw [hy] at ho; injection ho with ho; subst ho
 exact ha
theorem anc_listed {ops : Array Oper} {listed : Array Bool} (hc : Closed ops listed) : ∀ (n i j : Nat), ancB ops n i j = true → (∀ y, ops[j]? = some y → ∀ e ∈ y.after, Region.binds .any e = true → listed.getD e.on false = true) → listed.getD i false = true
 | 0, _, _, h, _ => by cases h
 | n + 1, i, j, h, hj => by
  unfold ancB at h
  split at h
  ·rename_i y hy
   rw [List.any_eq_true] at h
   obtain ⟨e, he, h⟩ := h
   rw [Array.mem_toList_iff] at he
   simp only [Bool.and_eq_true, Bool.or_eq_true, beq_iff_eq] at h
   have hl := hj y hy e he h.1
   rcases h.2 with rfl | h2
   ·exact hl
   ·exact anc_listed hc n i e.on h2 (fun z hz e' he' hb => hc e.on z hz hl e' he' hb)
  ·cases h
theorem getD_tf {l : Array Bool} {i : Nat} (h : l.getD i true = false) : l.getD i false = false := by
 simp only [Array.getD_eq_getD_getElem?] at h ⊢
 cases hv : l[i]? with
 | none => rw [hv] at h; cases h
 | some v => rw [hv] at h; simpa using h
theorem left_set {ops : Array Oper} {listed : Array Bool} {i : Nat} {pre post : List Nat} (hs : listed.size = ops.size) (h : left ops listed = pre ++ i :: post) : left ops (listed.setIfInBounds i true) = pre ++ post := by
 have hnd : (left ops listed).Nodup := List.Pairwise.filter _ List.nodup_range
 have hi : i < ops.size := (mem_left.1 (by rw [h]; simp : i ∈ left ops listed)).1
 have e : left ops (listed.setIfInBounds i true) = (left ops listed).filter (fun j => j != i) := by
  unfold left
  rw [List.filter_filter]
  apply List.filter_congr
  intro j hj
  simp only [Array.getD_eq_getD_getElem?, Array.getElem?_setIfInBounds]
  by_cases hij : i = j
  ·subst hij
   have : i < listed.size := by omega
   simp [this]
  ·have : (j != i) = true := by simpa using fun e => hij e.symm
   simp [hij, this]
 rw [e, h]
 rw [h] at hnd
 have hnd' := List.nodup_append.1 hnd
 have h1 : ∀ j ∈ pre, (j != i) = true := fun j hj => by simpa using hnd'.2.2 j hj i (by simp)
 have h2 : ∀ j ∈ post, (j != i) = true := fun j hj => by
  have := (List.nodup_cons.1 hnd'.2.1).1
  simp only [bne_iff_ne, ne_eq]
  intro e; subst e; exact this hj
 rw [List.filter_append, List.filter_cons, List.filter_eq_self.2 h1]
 simp
 exact fun a ha => by simpa using h2 a ha
theorem opsAt_append {ops : Array Oper} (l m : List Nat) : opsAt ops (l ++ m) = opsAt ops l ++ opsAt ops m := List.filterMap_append
theorem opsAt_cons {ops : Array Oper} {i : Nat} (l : List Nat) {x : Oper} (h : ops[i]? = some x) : opsAt ops (i :: l) = x :: opsAt ops l := by
 unfold opsAt; simp [List.filterMap_cons, h]
theorem mem_opsAt {ops : Array Oper} {l : List Nat} {o : Oper} : o ∈ opsAt ops l ↔ ∃ i ∈ l, ops[i]? = some o := by
 unfold opsAt; simp [List.mem_filterMap]
theorem sched {c : Cx} {ops : Array Oper} (hd : ∀ o ∈ ops.toList, dstOk c.h o) (hb : edgesBack ops) (ho : drawOk c ops) : ∀ (fuel t : Nat) (listed : Array Bool) (s s2 : S), listed.size = ops.size → Closed ops listed → (left ops listed).length ≤ fuel →
 runG c ops.toList (opsAt ops (left ops listed)) s = some (.ok s2) → ∃ s2', runG c ops.toList (opsAt ops (Region.linearise.go .any ops fuel t listed [])) s = some (.ok s2') ∧ Eqv s2 s2' ∧ ∀ i ∈ Region.linearise.go .any ops fuel t listed [], i < ops.size
 | 0, t, listed, s, s2, hs, hc, hf, h => by
  have : left ops listed = [] := List.length_eq_zero_iff.1 (by omega)
  rw [this] at h
  refine ⟨s2, ?_, Eqv.refl _, fun i hi => ?_⟩
  ·simpa [Region.linearise.go, opsAt] using h
  ·simp [Region.linearise.go] at hi
 | fuel + 1, t, listed, s, s2, hs, hc, hf, h => by
  have hmem : ∀ l, (∀ i ∈ l, i < ops.size) → ∀ o ∈ opsAt ops l, dstOk c.h o := fun l _ o ho' => by
   obtain ⟨i, _, hi⟩ := mem_opsAt.1 ho'
   exact hd o (by
    obtain ⟨h1, h2⟩ := Array.getElem?_eq_some_iff.1 hi
    rw [← h2]; exact Array.getElem_mem_toList h1)
  have unf : Region.linearise.go .any ops (fuel + 1) t listed [] = match (Region.ready .any ops listed)[t % (Region.ready .any ops listed).length]? with
   | some i => Region.linearise.go .any ops fuel (t / (Region.ready .any ops listed).length) (listed.setIfInBounds i true) [i]
   | none => [].reverse := rfl
  cases hi : (Region.ready .any ops listed)[t % (Region.ready .any ops listed).length]? with
  | none =>
   have hnil : Region.ready .any ops listed = [] := by
    cases hr : Region.ready .any ops listed with
    | nil => rfl
    | cons x xs =>
     rw [hr] at hi
     have hlt : t % (x :: xs).length < (x :: xs).length := Nat.mod_lt _ (by simp)
     simp at hi
     simp at hlt
     omega
   have hl : left ops listed = [] := by
    cases hl : left ops listed with
    | nil => rfl
    | cons x xs =>
     have := left_ready hb hs hl
     rw [hnil] at this; cases this
   rw [unf, hi]
   rw [hl] at h
   exact ⟨s2, by simpa [opsAt] using h, Eqv.refl _, fun i hi => by simp at hi⟩
  | some i =>
   rw [unf, hi]
   have hr : i ∈ Region.ready .any ops listed := List.mem_of_getElem? hi
   have hil := ready_left hr
   obtain ⟨hilt, hi0⟩ := mem_left.1 hil
   obtain ⟨pre, post, hpp⟩ := List.append_of_mem hil
   have hx : ops[i]? = some ops[i] := Array.getElem?_eq_getElem hilt
   have hsort : (left ops listed).Pairwise (· < ·) := List.Pairwise.filter _ List.pairwise_lt_range
   rw [hpp, opsAt_append, opsAt_cons _ hx] at h
   have hbound : ∀ j ∈ pre ++ i :: post, j < ops.size := fun j hj => (mem_left.1 (by rw [hpp]; exact hj : j ∈ left ops listed)).1
   have hdd : ∀ o ∈ opsAt ops pre ++ ops[i] :: opsAt ops post, dstOk c.h o := by
    have := hmem _ hbound
    rwa [opsAt_append, opsAt_cons _ hx] at this
   have hpair : ∀ y ∈ opsAt ops pre, pairG c ops.toList y ops[i] = true := fun y hy => by
    obtain ⟨j, hj, hjy⟩ := mem_opsAt.1 hy
    have hji : j < i := by
     rw [hpp] at hsort
     exact (List.pairwise_append.1 hsort).2.2 j hj i (by simp)
    rcases ho j i y ops[i] hji hjy hx with ha | hp
    ·exfalso
     have h1 := anc_listed hc _ j i ha (fun y hy e he hbe => ready_edge hr hy e he hbe)
     have h2 := (mem_left.1 (by rw [hpp]; simp [hj] : j ∈ left ops listed)).2
     rw [getD_tf h2] at h1; cases h1
    ·exact hp
   obtain ⟨s3, h3, e3⟩ := move_front hdd hpair h
   obtain ⟨s4, h4, h5⟩ := runG_cons.1 h3
   have hls := left_set hs hpp
   have hc' : Closed ops (listed.setIfInBounds i true) := by
    have mono : ∀ k, listed.getD k false = true → (listed.setIfInBounds i true).getD k false = true := fun k hk => by
     simp only [Array.getD_eq_getD_getElem?, Array.getElem?_setIfInBounds] at hk ⊢
     by_cases hik : i = k
     ·subst hik
      have : i < listed.size := by omega
      simp [this]
     ·simp only [hik, if_false]; exact hk
    intro j y hy hj e he hbe
    by_cases hij : i = j
    ·subst hij
     exact mono _ (ready_edge hr hy e he hbe)
    ·refine mono _ (hc j y hy ?_ e he hbe)
     simp only [Array.getD_eq_getD_getElem?, Array.getElem?_setIfInBounds, hij, if_false] at hj ⊢
     exact hj
   have hlen : (left ops (listed.setIfInBounds i true)).length ≤ fuel := by
    rw [hls]; rw [hpp] at hf
    simp only [List.length_append, List.length_cons] at hf ⊢
    omega
   obtain ⟨s5, h6, e6, hlt⟩ := sched hd hb ho fuel (t / (Region.ready .any ops listed).length) (listed.setIfInBounds i true) s4 s3 (by simpa using hs) hc' hlen (by rw [hls, opsAt_append]; exact h5)
   simp only []
   rw [linearise_go_acc, List.reverse_singleton, List.singleton_append, opsAt_cons _ hx]
   refine ⟨s5, runG_cons.2 ⟨s4, h4, h6⟩, e3.trans e6, fun j hj => ?_⟩
   rcases List.mem_cons.1 hj with rfl | hj
   ·exact hilt
   ·exact hlt j hj
theorem drawOkB_spec {H : FuncId → FH} {h : FH} {ops : Array Oper} (hb : drawOkB H h ops = true) (c : Cx) (hH : c.H = H) (hh : c.h = h) :
 (∀ o ∈ ops.toList, dstOk c.h o) ∧ edgesBack ops ∧ drawOk c ops := by
 subst hH; subst hh
 unfold drawOkB at hb
 rw [Bool.and_eq_true, List.all_eq_true, List.all_eq_true] at hb
 obtain ⟨h1, h2⟩ := hb
 have at' : ∀ (j : Nat) y, ops[j]? = some y → j ∈ List.range ops.size := fun j y hy => by
  rw [List.mem_range]; exact (Array.getElem?_eq_some_iff.1 hy).1
 refine ⟨fun o ho d hd => ?_, fun j y hy e he hbe => ?_, fun i j x y hij hx hy => ?_⟩
 ·have := h1 o ho
  rw [hd] at this
  simpa using this
 ·have := h2 j (at' j y hy)
  rw [hy] at this
  simp only [Bool.and_eq_true, List.all_eq_true] at this
  have := this.1 e (Array.mem_toList_iff.2 he)
  rw [hbe] at this
  simpa using this
 ·have := h2 j (at' j y hy)
  rw [hy] at this
  simp only [Bool.and_eq_true, List.all_eq_true] at this
  have := this.2 i (List.mem_range.2 hij)
  rw [hx] at this
  simp only [Bool.or_eq_true] at this
  rcases this with h | h
  ·exact .inr h
  ·exact .inl h
theorem left_none (ops : Array Oper) : left ops (Array.replicate ops.size false) = List.range ops.size := by
 unfold left
 rw [List.filter_eq_self]
 intro i hi
 rw [List.mem_range] at hi
 simp [Array.getD_eq_getD_getElem?, hi]
theorem opsAt_range (ops : Array Oper) : opsAt ops (List.range ops.size) = ops.toList := by
 have h := opsAt_map (ops := ops) (l := List.range ops.size) (fun i hi => List.mem_range.1 hi)
 have h2 : (List.range ops.size).map (fun i => ops[i]?) = ops.toList.map some := by
  apply List.ext_getElem?
  intro i
  simp only [List.getElem?_map, List.getElem?_range', Array.getElem?_toList]
  by_cases hi : i < ops.size
  ·simp [List.getElem?_range hi, Array.getElem?_eq_getElem hi]
  ·have : (List.range ops.size)[i]? = none := by simp; omega
   simp [this, Array.getElem?_eq_none (Nat.le_of_not_lt hi)]
 rw [h2] at h
 exact ((List.map_inj_right (fun a b e => by injection e)).1 h).symm
theorem sched_all {c : Cx} {ops : Array Oper} (hb : drawOkB c.H c.h ops = true) {s s1 : S} (h : stepOps c ops.toList ops.toList s = some (.ok s1)) (t : Nat) :
 ∃ l s2, Region.linearise .any ops t = l ∧ l.map (fun i => ops[i]?) = (opsAt ops l).map some ∧ runG c ops.toList (opsAt ops l) s = some (.ok s2) ∧ Eqv s1 s2 := by
 obtain ⟨hd, he, ho⟩ := drawOkB_spec hb c rfl rfl
 obtain ⟨s2, h2, e2⟩ := runG_of hd h
 have hcl : Closed ops (Array.replicate ops.size false) := fun j y _ hj => by
  exfalso
  simp only [Array.getD_eq_getD_getElem?, Array.getElem?_replicate] at hj
  split at hj <;> cases hj
 obtain ⟨s3, h3, e3, hlt⟩ := sched hd he ho ops.size t (Array.replicate ops.size false) s s2 (by simp) hcl (by rw [left_none]; simp) (by rw [left_none, opsAt_range]; exact h2)
 exact ⟨_, s3, rfl, opsAt_map hlt, h3, e2.trans e3⟩
end Go.AM
namespace Go.AM
open Go Go.RowKit
theorem canPan_no {c : Cx} {o : Oper} (hc : canPan o = false) {s s' : S} {v : PV} : stepOp c o s ≠ some (.pan v s') := by
 intro hs
 have hs := (stepOp_of hs).2
 unfold stepOp0 at hs
 have res : ∀ {d : Option Nat} {x : Option AV}, putRes s d x = some (.pan v s') → False := by
  intro d x h
  cases x <;> cases h
 have fr : ∀ {d : Option Nat} {x : Option (PV × List AObj)}, frzR d s x = some (.pan v s') → False := by
  intro d x h
  cases x <;> cases h
 split at hs
 case h_24 x ho => unfold canPan at hc; rw [ho] at hc; cases hc
 case h_28 cl ho =>
  split at hs
  ·rename_i f hcal
   unfold canPan at hc; rw [ho] at hc; dsimp only at hc; rw [hcal] at hc; cases hc
  all_goals (repeat' (first | (cases hs; done) | split at hs))
 all_goals (repeat' (first | (cases hs; done) | exact res hs | exact fr hs | split at hs))
section
variable {c : Cx}
theorem callV_frP {id : Nat} {D : CallF} (hC : c.C = frC id D) {sA s1 : S} {d : Option Nat} (hfr : (frOf c.h d).isNone = false) {f : AV} {args : List AV} {v : PV} (h : callV c sA d f args = some (.pan v s1)) :
 ∃ cs, sA.σ[id]? = some (.cells cs) ∧ s1.σ[id]? = some (.cells cs) ∧ ∀ (sB : S) cs', sB.σ = sA.σ.set id (.cells cs') → ∃ s1', callV c sB d f args = some (.pan v s1') ∧ s1'.σ = s1.σ.set id (.cells cs') := by
 have eok : ∀ {σ : List AObj} {o1 : Out}, endCall sA d σ o1 = .pan v s1 → o1 = .pan v ∧ s1.σ = σ := by
  intro σ o1 h
  cases o1 with
  | ret v => cases h
  | pan v =>
   injection h with h1 h2
   refine ⟨by rw [h1], ?_⟩
   subst h2
   cases d <;> rfl
 have back : ∀ (sB : S) (σ : List AObj), ∃ s1', endCall sB d σ (.pan v) = .pan v s1' ∧ s1'.σ = σ := fun sB σ => ⟨_, rfl, by cases d <;> rfl⟩
 unfold callV at h
 split at h
 ·rename_i f
  split at h
  ·rename_i hp
   split at h
   ·split at h
    ·rename_i o σ1 hc
     rw [hC] at hc
     obtain ⟨cs, h0, _⟩ := frC_set hc
     cases h0
    ·cases h
   ·cases h
  split at h
  ·rename_i hp hm
   obtain ⟨o1, q6, q7, hq⟩ := rmRun_ok h
   obtain ⟨rfl, _⟩ := eok q7.symm
   cases q6
  ·rename_i hp hm
   split at h
   ·rename_i o σ1 hc
    split at h
    case isFalse => cases h
    rename_i hrd
    injection h with h
    obtain ⟨rfl, e1⟩ := eok h
    rw [hC] at hc
    obtain ⟨cs, h0, h1, hs⟩ := frC_set hc
    refine ⟨cs, h0, by rw [e1]; exact h1, fun sB cs' hB => ?_⟩
    have hr : rdOk (c.H f).rd (sA.σ.set id (.cells cs')) (σ1.set id (.cells cs')) = true := by
     cases hb : (c.H f).rd with
     | false => exact rdOk_f _ _
     | true =>
      rw [hb] at hrd
      rw [rdOk_eq hrd]; exact rdOk_self _ _
    obtain ⟨s1', k1, k2⟩ := back sB (σ1.set id (.cells cs'))
    refine ⟨s1', ?_, by rw [k2, e1]⟩
    unfold callV
    dsimp only
    rw [if_neg hp, if_neg hm, hC, hB, hs cs']
    dsimp only
    rw [if_pos hr, k1]
   ·cases h
 ·split at h
  ·rename_i f cap _ o σ1 hc
   injection h with h
   obtain ⟨rfl, e1⟩ := eok h
   rw [hC] at hc
   obtain ⟨cs, h0, h1, hs⟩ := frC_set hc
   refine ⟨cs, h0, by rw [e1]; exact h1, fun sB cs' hB => ?_⟩
   obtain ⟨s1', k1, k2⟩ := back sB (σ1.set id (.cells cs'))
   refine ⟨s1', ?_, by rw [k2, e1]⟩
   unfold callV
   dsimp only
   rw [hC, hB, hs cs']
   dsimp only
   rw [k1]
  ·cases h
 ·split at h
  ·rename_i i _ o σ1 hc
   injection h with h
   obtain ⟨rfl, e1⟩ := eok h
   rw [hC] at hc
   obtain ⟨cs, h0, h1, hs⟩ := frC_set hc
   refine ⟨cs, h0, by rw [e1]; exact h1, fun sB cs' hB => ?_⟩
   obtain ⟨s1', k1, k2⟩ := back sB (σ1.set id (.cells cs'))
   refine ⟨s1', ?_, by rw [k2, e1]⟩
   unfold callV
   dsimp only
   rw [hC, hB, hs cs']
   dsimp only
   rw [k1]
  ·cases h
 ·cases h
theorem clsF_pan {o : Oper} {s s1 : S} {v : PV} {k : Nat} (hk : clsF c.h o = some k) (h : stepOp c o s = some (.pan v s1)) :
 ∃ cs, s.σ[frId c.base k]? = some (.cells cs) ∧ s1.σ[frId c.base k]? = some (.cells cs) ∧ ∀ (s' : S) cs', s'.σ = s.σ.set (frId c.base k) (.cells cs') → (∀ t, t ∈ rOf o → get s'.env t = get s.env t) → ∃ s1', stepOp c o s' = some (.pan v s1') ∧ s1'.σ = s1.σ.set (frId c.base k) (.cells cs') := by
 obtain ⟨ho, h⟩ := stepOp_of h
 unfold clsF at hk
 split at hk
 ·rename_i cl hop _
  split at hk
  ·rename_i f hcal
   have hargs : ∀ x ∈ cl.args.toList, x ∈ o.op.operands.toList := fun x hx => by rw [hop]; simp [Op.operands, Call.operands]; right; simpa using hx
   have hf : f ∈ o.op.operands.toList := by rw [hop]; simp [Op.operands, Call.operands, hcal]
   unfold stepOp0 at h
   rw [hop] at h
   dsimp only at h
   rw [hcal] at h
   dsimp only at h
   obtain ⟨cs, h0, hb1, hs⟩ := callV_frP (id := frId c.base k) (D := c.C) (by show frK (frOf c.h o.dst) c.base c.C = _; rw [hk]; rfl) (by show (frOf c.h o.dst).isNone = false; rw [hk]; rfl) h
   refine ⟨cs, h0, hb1, fun s' cs' hσ he => ?_⟩
   have hsm : Same o.op.operands.toList s.env s'.env := fun t ht => he t (rOf_mem ht)
   have hsa : Same cl.args.toList s.env s'.env := fun t ht => hsm t (hargs _ ht)
   obtain ⟨a, b, d⟩ := argsV_same (T := c.T) (h := c.h) hsa
   have hoff : offOk c o s' = true := by unfold offOk; rw [hop]
   unfold stepOp
   rw [hoff, if_pos rfl]
   unfold stepOp0
   rw [hop]
   dsimp only
   rw [hcal]
   dsimp only
   have e1 : rd (c.frm o).T s'.env f = rd (c.frm o).T s.env f := rd_same hsm hf
   have e2 : argsV (c.frm o).T (c.frm o).h s'.env cl.args.toList = argsV (c.frm o).T (c.frm o).h s.env cl.args.toList := a
   rw [e1, e2]
   exact hs _ cs' hσ
  ·cases hk
 ·cases hk
theorem pan_back {x y : Oper} {s s1 s2 : S} {v : PV} {k : Nat} (hk : clsF c.h x = some k) (hy : fkK (some k) (clsK c.h y) = true ∨ clsP c.H c.h y = true) (hg : y.guard = none) (hw : ∀ t, t ∈ wOf c.h y → t ∉ rOf x)
 (h1 : stepOp c y s = some (.ok s1)) (h2 : stepOp c x s1 = some (.pan v s2)) : ∃ s2', stepOp c x s = some (.pan v s2') ∧ s2'.σ.set (frId c.base k) .hid = s2.σ.set (frId c.base k) .hid := by
 obtain ⟨cs, q0, _, q1⟩ := clsF_pan hk h2
 obtain ⟨_, e0, mx⟩ := stepOp_local (s' := s) rfl (fun _ _ => rfl) h1
 have henv : ∀ t, t ∈ rOf x → get s.env t = get s1.env t := fun t ht => ((mx.out t (fun e => hw t e ht)).1).symm
 have hσ : ∃ cs', s.σ = s1.σ.set (frId c.base k) (.cells cs') := by
  rcases hy with hy | hy
  ·obtain ⟨k', e1, e2⟩ := fkK_some hy
   injection e1 with e1; subst e1
   obtain ⟨c1, c2, r0, r1, _⟩ := clsK_ok e2 h1
   exact ⟨c1, by rw [r1, List.set_set, set_self' r0]⟩
  ·have := ((act_op c y).p hy _ _ s.σ h1).2
   rw [this] at q0
   exact ⟨cs, by rw [this, set_self' q0]⟩
 obtain ⟨cs', hσ⟩ := hσ
 obtain ⟨s2', k1, k2⟩ := q1 s cs' hσ henv
 exact ⟨s2', k1, by rw [k2, List.set_set]⟩
theorem stepG_free {all : List Oper} {o : Oper} (h : o.guard = none) (s : S) : stepG c all o s = stepOp c o s := by unfold stepG guardOf; rw [h]
theorem clsF_guard {h : FH} {o : Oper} {k : Nat} (hk : clsF h o = some k) : o.guard = none := by
 unfold clsF at hk
 split at hk
 ·assumption
 ·cases hk
theorem pan_backs {all : List Oper} {x : Oper} {v : PV} {k : Nat} (hk : clsF c.h x = some k) : ∀ (l : List Oper) {s s1 s2 : S}, (∀ y ∈ l, (fkK (some k) (clsK c.h y) = true ∨ clsP c.H c.h y = true) ∧ y.guard = none ∧ ∀ t, t ∈ wOf c.h y → t ∉ rOf x) →
 runG c all l s = some (.ok s1) → stepOp c x s1 = some (.pan v s2) → ∃ s2', stepOp c x s = some (.pan v s2') ∧ s2'.σ.set (frId c.base k) .hid = s2.σ.set (frId c.base k) .hid
 | [], s, s1, s2, _, h1, h2 => by injection h1 with h1; injection h1 with h1; subst h1; exact ⟨s2, h2, rfl⟩
 | y :: l, s, s1, s2, hl, h1, h2 => by
  obtain ⟨sa, h3, h4⟩ := runG_cons.1 h1
  obtain ⟨s2', h5, h6⟩ := pan_backs hk l (fun z hz => hl z (List.mem_cons_of_mem y hz)) h4 h2
  obtain ⟨a, b, d⟩ := hl y (by simp)
  rw [stepG_free b] at h3
  obtain ⟨s2'', h7, h8⟩ := pan_back hk a b d h3 h5
  exact ⟨s2'', h7, h8.trans h6⟩
theorem stepOps_pan {all : List Oper} {v : PV} : ∀ (os : List Oper) {s s2 : S}, (∀ o ∈ os, o.guard = none) → stepOps c all os s = some (.pan v s2) → ∃ pre x post s1, os = pre ++ x :: post ∧ runG c all pre s = some (.ok s1) ∧ stepOp c x s1 = some (.pan v s2)
 | [], s, s2, _, h => by cases h
 | o :: os, s, s2, hg, h => by
  unfold stepOps guardOf at h
  rw [hg o (by simp)] at h
  dsimp only at h
  cases h1 : stepOp c o s with
  | none => rw [h1] at h; cases h
  | some r =>
   rw [h1] at h
   cases r with
   | pan w s1 =>
    injection h with h; injection h with e1 e2; subst e1; subst e2
    exact ⟨[], o, os, s, rfl, rfl, h1⟩
   | ok s1 =>
    obtain ⟨pre, x, post, sa, e, h2, h3⟩ := stepOps_pan os (fun z hz => hg z (List.mem_cons_of_mem o hz)) h
    exact ⟨o :: pre, x, post, sa, by rw [e]; rfl, runG_cons.2 ⟨s1, by rw [stepG_free (hg o (by simp))]; exact h1, h2⟩, h3⟩
theorem clsF_panE {o : Oper} {s s' s1 : S} {v : PV} {k : Nat} (hk : clsF c.h o = some k) (he : Eqv s s') (h : stepOp c o s = some (.pan v s1)) : ∃ s1', stepOp c o s' = some (.pan v s1') ∧ s1'.σ.set (frId c.base k) .hid = s1.σ.set (frId c.base k) .hid := by
 obtain ⟨cs, q0, _, q1⟩ := clsF_pan hk h
 obtain ⟨s1', k1, k2⟩ := q1 s' cs (by rw [he.σ, set_self' q0]) (fun t _ => he.env t)
 exact ⟨s1', k1, by rw [k2, List.set_set]⟩
theorem schedP {ops : Array Oper} (hd : ∀ o ∈ ops.toList, dstOk c.h o) (hb : edgesBack ops) (ho : drawOk c ops) {i0 k : Nat} {x : Oper} (hx0 : ops[i0]? = some x) (hk : clsF c.h x = some k)
 (hpost : ∀ j, i0 < j → j < ops.size → ancB ops ops.size i0 j = true)
 (hpre : ∀ j y, j < i0 → ops[j]? = some y → ancB ops ops.size j i0 = true ∨ ((fkK (some k) (clsK c.h y) = true ∨ clsP c.H c.h y = true) ∧ y.guard = none ∧ ∀ t, t ∈ wOf c.h y → t ∉ rOf x)) {v : PV} :
 ∀ (fuel t : Nat) (listed : Array Bool) (s s1 s2 : S) (A B : List Nat), listed.size = ops.size → Closed ops listed → left ops listed = A ++ i0 :: B → (left ops listed).length ≤ fuel →
 runG c ops.toList (opsAt ops A) s = some (.ok s1) → stepOp c x s1 = some (.pan v s2) → ∃ s2', runG c ops.toList (opsAt ops (Region.linearise.go .any ops fuel t listed [])) s = some (.pan v s2') ∧ s2'.σ.set (frId c.base k) .hid = s2.σ.set (frId c.base k) .hid ∧ (∃ cs, s2'.σ[frId c.base k]? = some (.cells cs)) ∧ ∀ i ∈ Region.linearise.go .any ops fuel t listed [], i < ops.size
 | 0, t, listed, s, s1, s2, A, B, hs, hc, hl, hf, h, hp => by
  rw [hl] at hf; simp at hf
 | fuel + 1, t, listed, s, s1, s2, A, B, hs, hc, hl, hf, h, hp => by
  have hmem : ∀ l, (∀ i ∈ l, i < ops.size) → ∀ o ∈ opsAt ops l, dstOk c.h o := fun l _ o ho' => by
   obtain ⟨i, _, hi⟩ := mem_opsAt.1 ho'
   exact hd o (by
    obtain ⟨h1, h2⟩ := Array.getElem?_eq_some_iff.1 hi
    rw [← h2]; exact Array.getElem_mem_toList h1)
  have unf : Region.linearise.go .any ops (fuel + 1) t listed [] = match (Region.ready .any ops listed)[t % (Region.ready .any ops listed).length]? with
   | some i => Region.linearise.go .any ops fuel (t / (Region.ready .any ops listed).length) (listed.setIfInBounds i true) [i]
   | none => [].reverse := rfl
  have hsort : (left ops listed).Pairwise (· < ·) := List.Pairwise.filter _ List.pairwise_lt_range
  have hgo : ∀ n t l, ∀ i ∈ Region.linearise.go .any ops n t l [], i < ops.size := by
   intro n
   induction n with
   | zero => intro t l i hi; simp [Region.linearise.go] at hi
   | succ n ih =>
    intro t l i hi
    have unf' : Region.linearise.go .any ops (n + 1) t l [] = match (Region.ready .any ops l)[t % (Region.ready .any ops l).length]? with
     | some i => Region.linearise.go .any ops n (t / (Region.ready .any ops l).length) (l.setIfInBounds i true) [i]
     | none => [].reverse := rfl
    rw [unf'] at hi
    cases hq : (Region.ready .any ops l)[t % (Region.ready .any ops l).length]? with
    | none => rw [hq] at hi; simp at hi
    | some j =>
     rw [hq] at hi
     simp only [] at hi
     rw [linearise_go_acc, List.reverse_singleton, List.singleton_append] at hi
     rcases List.mem_cons.1 hi with rfl | hi
     ·exact (mem_left.1 (ready_left (List.mem_of_getElem? hq))).1
     ·exact ih _ _ i hi
  cases hi : (Region.ready .any ops listed)[t % (Region.ready .any ops listed).length]? with
  | none =>
   exfalso
   have hnil : Region.ready .any ops listed = [] := by
    cases hr : Region.ready .any ops listed with
    | nil => rfl
    | cons x xs =>
     rw [hr] at hi
     have hlt : t % (x :: xs).length < (x :: xs).length := Nat.mod_lt _ (by simp)
     simp at hi
     simp at hlt
     omega
   cases hl2 : left ops listed with
   | nil => rw [hl2] at hl; simp at hl
   | cons x xs =>
    have := left_ready hb hs hl2
    rw [hnil] at this; cases this
  | some i =>
   have hr : i ∈ Region.ready .any ops listed := List.mem_of_getElem? hi
   have hil := ready_left hr
   obtain ⟨hilt, hi0⟩ := mem_left.1 hil
   have hx : ops[i]? = some ops[i] := Array.getElem?_eq_getElem hilt
   have hun : ∀ j, j ∈ left ops listed → ancB ops ops.size j i = true → False := fun j hj ha => by
    have h1 := anc_listed hc _ j i ha (fun y hy e he hbe => ready_edge hr hy e he hbe)
    have h2 := (mem_left.1 hj).2
    rw [getD_tf h2] at h1; cases h1
   have hunf2 : Region.linearise.go .any ops (fuel + 1) t listed [] = i :: Region.linearise.go .any ops fuel (t / (Region.ready .any ops listed).length) (listed.setIfInBounds i true) [] := by
    rw [unf, hi]
    simp only []
    rw [linearise_go_acc, List.reverse_singleton, List.singleton_append]
   have hlt : ∀ j ∈ Region.linearise.go .any ops (fuel + 1) t listed [], j < ops.size := hgo _ _ _
   rw [hl] at hil
   rcases List.mem_append.1 hil with hA | hA
   ·
    obtain ⟨pre, post, hpp⟩ := List.append_of_mem hA
    have hbound : ∀ j ∈ pre ++ i :: post, j < ops.size := fun j hj => (mem_left.1 (by rw [hl, hpp]; exact List.mem_append_left _ hj : j ∈ left ops listed)).1
    rw [hpp, opsAt_append, opsAt_cons _ hx] at h
    have hdd : ∀ o ∈ opsAt ops pre ++ ops[i] :: opsAt ops post, dstOk c.h o := by
     have := hmem _ hbound
     rwa [opsAt_append, opsAt_cons _ hx] at this
    have hpair : ∀ y ∈ opsAt ops pre, pairG c ops.toList y ops[i] = true := fun y hy => by
     obtain ⟨j, hj, hjy⟩ := mem_opsAt.1 hy
     have hji : j < i := by
      rw [hl, hpp, List.append_assoc] at hsort
      exact (List.pairwise_append.1 hsort).2.2 j hj i (by simp)
     rcases ho j i y ops[i] hji hjy hx with ha | hp
     ·exact (hun j (by rw [hl, hpp]; simp [hj]) ha).elim
     ·exact hp
    obtain ⟨s3, h3, e3⟩ := move_front hdd hpair h
    obtain ⟨s4, h4, h5⟩ := runG_cons.1 h3
    obtain ⟨s2', hp', hq'⟩ := clsF_panE hk e3 hp
    have hls : left ops (listed.setIfInBounds i true) = pre ++ (post ++ i0 :: B) := left_set hs (by rw [hl, hpp]; simp)
    have hc' : Closed ops (listed.setIfInBounds i true) := by
     have mono : ∀ k, listed.getD k false = true → (listed.setIfInBounds i true).getD k false = true := fun k hk => by
      simp only [Array.getD_eq_getD_getElem?, Array.getElem?_setIfInBounds] at hk ⊢
      by_cases hik : i = k
      ·subst hik
       have : i < listed.size := by omega
       simp [this]
      ·simp only [hik, if_false]; exact hk
     intro j y hy hj e he hbe
     by_cases hij : i = j
     ·subst hij
      exact mono _ (ready_edge hr hy e he hbe)
     ·refine mono _ (hc j y hy ?_ e he hbe)
      simp only [Array.getD_eq_getD_getElem?, Array.getElem?_setIfInBounds, hij, if_false] at hj ⊢
      exact hj
    have hlen : (left ops (listed.setIfInBounds i true)).length ≤ fuel := by
     rw [hls]; rw [hl, hpp] at hf
     simp only [List.length_append, List.length_cons] at hf ⊢
     omega
    obtain ⟨s5, h6, e6, e7, _⟩ := schedP hd hb ho hx0 hk hpost hpre fuel (t / (Region.ready .any ops listed).length) (listed.setIfInBounds i true) s4 s3 s2' (pre ++ post) B (by simpa using hs) hc' (by rw [hls, List.append_assoc]) hlen (by rw [opsAt_append]; exact h5) hp'
    refine ⟨s5, ?_, e6.trans hq', e7, hlt⟩
    rw [hunf2, opsAt_cons _ hx, runG, h4]
    exact h6
   ·rcases List.mem_cons.1 hA with rfl | hB
    ·
     have hxx : ops[i] = x := by rw [hx] at hx0; injection hx0
     have hfree : ∀ y ∈ opsAt ops A, (fkK (some k) (clsK c.h y) = true ∨ clsP c.H c.h y = true) ∧ y.guard = none ∧ ∀ t, t ∈ wOf c.h y → t ∉ rOf x := fun y hy => by
      obtain ⟨j, hj, hjy⟩ := mem_opsAt.1 hy
      have hji : j < i := by
       rw [hl] at hsort
       exact (List.pairwise_append.1 hsort).2.2 j hj i (by simp)
      rcases hpre j y hji hjy with ha | hp
      ·exact (hun j (by rw [hl]; simp [hj]) ha).elim
      ·exact hp
     obtain ⟨s2', k1, k2⟩ := pan_backs hk _ hfree h hp
     obtain ⟨cs, _, k3, _⟩ := clsF_pan hk k1
     refine ⟨s2', ?_, k2, ⟨cs, k3⟩, hlt⟩
     rw [hunf2, opsAt_cons _ hx, runG, hxx, stepG_free (clsF_guard hk), k1]
     rfl
    ·
     exfalso
     have hji : i0 < i := by
      rw [hl] at hsort
      exact (List.pairwise_cons.1 (List.pairwise_append.1 hsort).2.1).1 i hB
     exact hun i0 (by rw [hl]; simp) (hpost i hji hilt)
theorem schedP_all {ops : Array Oper} {k : Nat} (hb : drawOkB c.H c.h ops = true) (hp : panOkB c.H c.h ops k = true) {s s2 : S} {v : PV} (h : stepOps c ops.toList ops.toList s = some (.pan v s2)) (t : Nat) :
 ∃ l s2', Region.linearise .any ops t = l ∧ l.map (fun i => ops[i]?) = (opsAt ops l).map some ∧ (∀ o ∈ opsAt ops l, o.guard = none) ∧ runG c ops.toList (opsAt ops l) s = some (.pan v s2') ∧ s2'.σ.set (frId c.base k) .hid = s2.σ.set (frId c.base k) .hid ∧ ∃ cs, s2'.σ[frId c.base k]? = some (.cells cs) := by
 obtain ⟨hd, he, ho⟩ := drawOkB_spec hb c rfl rfl
 unfold panOkB at hp
 rw [List.any_eq_true] at hp
 obtain ⟨i, hi, hp⟩ := hp
 have hin := List.mem_range.1 hi
 cases hx : ops[i]? with
 | none => rw [hx] at hp; cases hp
 | some x =>
 rw [hx] at hp
 simp only [Bool.and_eq_true, beq_iff_eq, List.all_eq_true] at hp
 obtain ⟨hk, hall⟩ := hp
 have hy : ∀ (j : Nat) y, ops[j]? = some y → j ≠ i → canPan y = false ∧ y.guard = none ∧ (if i < j then ancB ops ops.size i j = true else (ancB ops ops.size j i = true ∨ ((fkK (some k) (clsK c.h y) = true ∨ clsP c.H c.h y = true) ∧ ∀ t, t ∈ wOf c.h y → t ∉ rOf x))) := fun j y hj hne => by
  have := hall j (List.mem_range.2 (Array.getElem?_eq_some_iff.1 hj).1)
  rw [hj] at this
  simp only [Bool.or_eq_true, beq_iff_eq, hne, false_or, Bool.and_eq_true, Bool.not_eq_true', Option.isNone_iff_eq_none] at this
  obtain ⟨⟨h1, h2⟩, h3⟩ := this
  refine ⟨h1, h2, ?_⟩
  split at h3
  ·rename_i hij; rw [if_pos hij]; exact h3
  ·rename_i hij; rw [if_neg hij]
   simpa only [Bool.or_eq_true, Bool.and_eq_true, List.all_eq_true, Bool.not_eq_true', List.contains_eq_mem, decide_eq_false_iff_not] using h3
 have hg : ∀ (j : Nat) y, ops[j]? = some y → y.guard = none := fun j y hj => by
  by_cases e : j = i
  ·subst e; rw [hx] at hj; injection hj with hj; subst hj; exact clsF_guard hk
  ·exact (hy j y hj e).2.1
 obtain ⟨pre, x', post, s1, e, h1, h2⟩ := stepOps_pan ops.toList (fun o ho => by
  obtain ⟨j, hj⟩ := List.getElem?_of_mem ho
  rw [Array.getElem?_toList] at hj
  exact hg j o hj) h
 have hxp : ops[pre.length]? = some x' := by rw [← Array.getElem?_toList, e, List.getElem?_append_right (Nat.le_refl _), Nat.sub_self]; rfl
 have hpi : pre.length = i := by
  by_cases hne : pre.length = i
  ·exact hne
  ·exact absurd h2 (canPan_no (hy _ _ hxp hne).1)
 have hxx : x' = x := by rw [hpi, hx] at hxp; injection hxp with hxp; exact hxp.symm
 subst hxx
 obtain ⟨A, B, hAB⟩ := List.append_of_mem hi
 have hAl : A.length = i := by
  have h3 : (List.range ops.size)[A.length]? = some i := by rw [hAB, List.getElem?_append_right (Nat.le_refl _), Nat.sub_self]; rfl
  obtain ⟨h4, h5⟩ := List.getElem?_eq_some_iff.1 h3
  rw [List.getElem_range] at h5; exact h5
 have hmA : ∀ j ∈ A, j < ops.size := fun j hj => List.mem_range.1 (by rw [hAB]; exact List.mem_append_left _ hj)
 have hpre : opsAt ops A = pre := by
  have h3 := opsAt_range ops
  rw [hAB, opsAt_append, opsAt_cons _ hx, e] at h3
  refine (List.append_inj h3 ?_).1
  have h4 := congrArg List.length (opsAt_map hmA)
  rw [List.length_map, List.length_map] at h4
  omega
 have hcl : Closed ops (Array.replicate ops.size false) := fun j y _ hj => by
  exfalso
  simp only [Array.getD_eq_getD_getElem?, Array.getElem?_replicate] at hj
  split at hj <;> cases hj
 obtain ⟨s3, h3, e3, e4, hlt⟩ := schedP hd he ho hx hk (fun j hij hj => by
  have := (hy j _ (Array.getElem?_eq_getElem hj) (by omega)).2.2
  rwa [if_pos hij] at this) (fun j y hij hj => by
  obtain ⟨_, q1, q2⟩ := hy j y hj (by omega)
  rw [if_neg (by omega)] at q2
  rcases q2 with q2 | q2
  ·exact .inl q2
  ·exact .inr ⟨q2.1, q1, q2.2⟩) ops.size t (Array.replicate ops.size false) s s1 s2 A B (by simp) hcl (by rw [left_none]; exact hAB) (by rw [left_none]; simp) (by rw [hpre]; exact h1) h2
 refine ⟨_, s3, rfl, opsAt_map hlt, fun o ho => ?_, h3, e3, e4⟩
 obtain ⟨j, _, hj⟩ := mem_opsAt.1 ho
 exact hg j o hj
end
section
variable {GL : List (Nat × List PV)} {B0 : Nat} {w0 : World} {ty : List TI} {P : Program} {H : FuncId → FH} {C : CallF} {h : FH} {base : Nat} {ro : Option Nat}
theorem ops_wpP (hT : TabOk P ⟨ty, GL⟩) (hC : CallSim P GL C) (hG0 : ∀ f args v σ', (H f).pu = true → C (.fn f) args [] = some (.ret v, σ') → ltV 0 v = true) (hFr : ∀ id args v σ σ', C (.yld id) args σ ≠ some (.pan v, σ')) {N : Nat} (ops : Array Oper) (hok : ∀ (i : Nat) o, ops[i]? = some o → opOk N o = true) {a0 : Act} {g0 : G} {w00 : World} {s' : S} {v : PV} {Q : Exit → Act → World → Prop}
 (hQ : ∀ V g' (a' : Act) w', RelP g'.Φ v V → Inv GL B0 w0 g' s'.env s'.σ a'.tmps w' → Post g0 w00 g' w' → a'.tmps.size = a0.tmps.size → a'.defers = a0.defers → Q (.panic [{ v := V, recovered := false }]) a' w') :
 ∀ (l : List Nat) (os : List Oper) (s : S) (a : Act) (g : G) (w : World), l.map (fun i => ops[i]?) = os.map some → (∀ o ∈ os, o.guard = none) → N ≤ a.tmps.size → Inv GL B0 w0 g s.env s.σ a.tmps w → Post g0 w00 g w → a.tmps.size = a0.tmps.size → a.defers = a0.defers →
  runG ⟨⟨ty, GL⟩, H, C, h, base⟩ ops.toList os s = some (.pan v s') → wpOpsIn (FW ro) 0 P ops Q l a w
 | l, [], s, a, g, w, hl, hg, hN, hI, hP, hsz, hdf, hs => by cases hs
 | [], o :: os, s, a, g, w, hl, hg, hN, hI, hP, hsz, hdf, hs => by simp at hl
 | i :: l, o :: os, s, a, g, w, hl, hg, hN, hI, hP, hsz, hdf, hs => by
  simp only [List.map_cons, List.cons.injEq] at hl
  obtain ⟨hoi, hl'⟩ := hl
  have hoo := hok i o hoi
  simp only [wpOpsIn, hoi]
  have hgo := hg o (by simp)
  have hw : Region.wanted o (yielded ops a.tmps) = true := by unfold Region.wanted; rw [hgo]
  rw [if_pos hw]
  rw [runG, stepG_free hgo] at hs
  cases hst : stepOp ⟨⟨ty, GL⟩, H, C, h, base⟩ o s with
  | none => rw [hst] at hs; cases hs
  | some r =>
   rw [hst] at hs
   cases r with
   | pan v2 s2 =>
    injection hs with hs; injection hs with e1 e2; subst e1; subst e2
    exact op_pan hC hFr hN hoo hI hst (fun V g' w' hv hI2 hP2 => hQ V g' a w' hv hI2 (hP.trans hP2) hsz hdf)
   | ok s2 =>
    exact op_wp hT hC hG0 hN hoo hI hst (fun a' w' g' hI2 hP2 hz hd2 => ops_wpP hT hC hG0 hFr ops hok hQ l os s2 a' g' w' hl' (fun x hx => hg x (List.mem_cons_of_mem o hx)) (by rw [hz]; exact hN) hI2 (hP.trans hP2) (hz.trans hsz) (hd2.trans hdf) hs)
theorem Inv.lose {g : G} {env : Env} {σ : List AObj} {tm : Array Value} {w : World} {id : Nat} {cs : List AV} (hI : Inv GL B0 w0 g env σ tm w) (h0 : σ[id]? = some (.cells cs)) : Inv GL B0 w0 g [] (σ.set id .hid) tm w := by
 have hlt := (List.getElem?_eq_some_iff.1 h0).1
 refine ⟨hI.below, hI.base, hI.fz, hI.tlt, hI.own, fun t => ?_, fun i o ho => ?_, by rw [List.length_set]; exact hI.len, hI.glob, hI.mlt⟩
 ·show RelS g t .undef _
  unfold RelS RelA; trivial
 ·by_cases e : id = i
  ·subst e
   rw [List.getElem?_set_self hlt] at ho
   injection ho with ho; subst ho
   obtain ⟨e, he, ha, _⟩ := hI.objs id _ h0
   exact ⟨e, he, ha⟩
  ·rw [List.getElem?_set_ne e] at ho
   exact hI.objs i o ho
end
end Go.AM
