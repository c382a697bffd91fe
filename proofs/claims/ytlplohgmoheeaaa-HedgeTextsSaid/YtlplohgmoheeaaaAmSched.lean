/- A part of the abstract machine and its simulation. -/
import Derived.Test.YtlplohgmoheeaaaAmDraw
import Derived.Orders
set_option linter.unusedVariables false
set_option linter.unusedSimpArgs false
namespace Go.AM
open Go
def opsAt (ops : Array Oper) (l : List Nat) : List Oper := l.filterMap fun i => ops[i]?
theorem opsAt_map {ops : Array Oper} : ∀ {l : List Nat}, (∀ i, i ∈ l → i < ops.size) → l.map (fun i => ops[i]?) = (opsAt ops l).map some
 | [], _ => rfl
 | i :: l, h => by
  have hi := h i (by simp)
  have ih := opsAt_map (l := l) (fun j hj => h j (List.mem_cons_of_mem i hj))
  have e : ops[i]? = some ops[i] := Array.getElem?_eq_getElem hi
  unfold opsAt at ih ⊢
  simp only [List.map_cons, List.filterMap_cons, e]
  rw [ih]
def left (ops : Array Oper) (listed : Array Bool) : List Nat := (List.range ops.size).filter fun i => !listed.getD i true
def drawOk (c : Cx) (ops : Array Oper) : Prop :=
 ∀ (i j : Nat) x y, i < j → ops[i]? = some x → ops[j]? = some y → ancB ops ops.size i j = true ∨ pairG c ops.toList x y = true
def edgesBack (ops : Array Oper) : Prop := ∀ (j : Nat) y, ops[j]? = some y → ∀ e ∈ y.after, Region.binds .any e = true → e.on < j
def Closed (ops : Array Oper) (listed : Array Bool) : Prop :=
 ∀ (j : Nat) y, ops[j]? = some y → listed.getD j false = true → ∀ e ∈ y.after, Region.binds .any e = true → listed.getD e.on false = true
theorem mem_left {ops : Array Oper} {listed : Array Bool} {i : Nat} : i ∈ left ops listed ↔ i < ops.size ∧ listed.getD i true = false := by
 unfold left
 rw [List.mem_filter, List.mem_range]
 simp
theorem ready_left {ops : Array Oper} {listed : Array Bool} {i : Nat} (h : i ∈ Region.ready .any ops listed) : i ∈ left ops listed := by
 rw [mem_ready] at h
 obtain ⟨h0, o, ho, _⟩ := h
 exact mem_left.2 ⟨(Array.getElem?_eq_some_iff.1 ho).1, h0⟩
theorem left_ready {ops : Array Oper} (hb : edgesBack ops) {listed : Array Bool} {i : Nat} {l : List Nat} (hs : listed.size = ops.size) (h : left ops listed = i :: l) : i ∈ Region.ready .any ops listed := by
 have hi : i ∈ left ops listed := by rw [h]; simp
 obtain ⟨hlt, h0⟩ := mem_left.1 hi
 rw [mem_ready]
 refine ⟨h0, ops[i], Array.getElem?_eq_getElem hlt, fun e he hbe => ?_⟩
 have hon := hb i _ (Array.getElem?_eq_getElem hlt) e he hbe
 have hsort : (left ops listed).Pairwise (· < ·) := List.Pairwise.filter _ List.pairwise_lt_range
 cases hv : listed.getD e.on false with
 | true => rfl
 | false =>
  exfalso
  have : e.on ∈ left ops listed := mem_left.2 ⟨by omega, by
   have hl : e.on < listed.size := by omega
   simp only [Array.getD_eq_getD_getElem?, Array.getElem?_eq_getElem hl, Option.getD_some] at hv ⊢
   exact hv⟩
  rw [h] at this hsort
  rcases List.mem_cons.1 this with h1 | h1
  ·omega
  ·have := (List.pairwise_cons.1 hsort).1 _ h1
   omega
theorem ready_edge {ops : Array Oper} {listed : Array Bool} {j : Nat} {y : Oper} (h : j ∈ Region.ready .any ops listed) (hy : ops[j]? = some y) : ∀ e ∈ y.after, Region.binds .any e = true → listed.getD e.on false = true := by
 rw [mem_ready] at h
 obtain ⟨_, o, ho, ha⟩ := h
 rw [hy] at ho; injection ho with ho; subst ho
 exact ha
theorem anc_listed {ops : Array Oper} {listed : Array Bool} (hc : Closed ops listed) : ∀ (n i j : Nat), ancB ops n i j = true → (∀ y, ops[j]? = some y → ∀ e ∈ y.after, Region.binds .any e = true → listed.getD e.on false = true) → listed.getD i false = true
 | 0, _, _, h, _ => by cases h
 | n + 1, i, j, h, hj => by
  unfold ancB at h
  split at h
  ·rename_i y hy
   rw [List.any_eq_true] at h
   obtain ⟨e, he, h⟩ := h
   rw [Array.mem_toList_iff] at he
   simp only [Bool.and_eq_true, Bool.or_eq_true, beq_iff_eq] at h
   have hl := hj y hy e he h.1
   rcases h.2 with rfl | h2
   ·exact hl
   ·exact anc_listed hc n i e.on h2 (fun z hz e' he' hb => hc e.on z hz hl e' he' hb)
  ·cases h
theorem getD_tf {l : Array Bool} {i : Nat} (h : l.getD i true = false) : l.getD i false = false := by
 simp only [Array.getD_eq_getD_getElem?] at h ⊢
 cases hv : l[i]? with
 | none => rw [hv] at h; cases h
 | some v => rw [hv] at h; simpa using h
theorem left_set {ops : Array Oper} {listed : Array Bool} {i : Nat} {pre post : List Nat} (hs : listed.size = ops.size) (h : left ops listed = pre ++ i :: post) : left ops (listed.setIfInBounds i true) = pre ++ post := by
 have hnd : (left ops listed).Nodup := List.Pairwise.filter _ List.nodup_range
 have hi : i < ops.size := (mem_left.1 (by rw [h]; simp : i ∈ left ops listed)).1
 have e : left ops (listed.setIfInBounds i true) = (left ops listed).filter (fun j => j != i) := by
  unfold left
  rw [List.filter_filter]
  apply List.filter_congr
  intro j hj
  simp only [Array.getD_eq_getD_getElem?, Array.getElem?_setIfInBounds]
  by_cases hij : i = j
  ·subst hij
   have : i < listed.size := by omega
   simp [this]
  ·have : (j != i) = true := by simpa using fun e => hij e.symm
   simp [hij, this]
 rw [e, h]
 rw [h] at hnd
 have hnd' := List.nodup_append.1 hnd
 have h1 : ∀ j ∈ pre, (j != i) = true := fun j hj => by simpa using hnd'.2.2 j hj i (by simp)
 have h2 : ∀ j ∈ post, (j != i) = true := fun j hj => by
  have := (List.nodup_cons.1 hnd'.2.1).1
  simp only [bne_iff_ne, ne_eq]
  intro e; subst e; exact this hj
 rw [List.filter_append, List.filter_cons, List.filter_eq_self.2 h1]
 simp
 exact fun a ha => by simpa using h2 a ha
theorem opsAt_append {ops : Array Oper} (l m : List Nat) : opsAt ops (l ++ m) = opsAt ops l ++ opsAt ops m := List.filterMap_append
theorem opsAt_cons {ops : Array Oper} {i : Nat} (l : List Nat) {x : Oper} (h : ops[i]? = some x) : opsAt ops (i :: l) = x :: opsAt ops l := by
 unfold opsAt; simp [List.filterMap_cons, h]
theorem mem_opsAt {ops : Array Oper} {l : List Nat} {o : Oper} : o ∈ opsAt ops l ↔ ∃ i ∈ l, ops[i]? = some o := by
 unfold opsAt; simp [List.mem_filterMap]
theorem sched {c : Cx} {ops : Array Oper} (hd : ∀ o ∈ ops.toList, dstOk c.h o) (hb : edgesBack ops) (ho : drawOk c ops) : ∀ (fuel t : Nat) (listed : Array Bool) (s s2 : S), listed.size = ops.size → Closed ops listed → (left ops listed).length ≤ fuel →
 runG c ops.toList (opsAt ops (left ops listed)) s = some (.ok s2) → ∃ s2', runG c ops.toList (opsAt ops (Region.linearise.go .any ops fuel t listed [])) s = some (.ok s2') ∧ Eqv s2 s2' ∧ ∀ i ∈ Region.linearise.go .any ops fuel t listed [], i < ops.size
 | 0, t, listed, s, s2, hs, hc, hf, h => by
  have : left ops listed = [] := List.length_eq_zero_iff.1 (by omega)
  rw [this] at h
  refine ⟨s2, ?_, Eqv.refl _, fun i hi => ?_⟩
  ·simpa [Region.linearise.go, opsAt] using h
  ·simp [Region.linearise.go] at hi
 | fuel + 1, t, listed, s, s2, hs, hc, hf, h => by
  have hmem : ∀ l, (∀ i ∈ l, i < ops.size) → ∀ o ∈ opsAt ops l, dstOk c.h o := fun l _ o ho' => by
   obtain ⟨i, _, hi⟩ := mem_opsAt.1 ho'
   exact hd o (by
    obtain ⟨h1, h2⟩ := Array.getElem?_eq_some_iff.1 hi
    rw [← h2]; exact Array.getElem_mem_toList h1)
  have unf : Region.linearise.go .any ops (fuel + 1) t listed [] = match (Region.ready .any ops listed)[t % (Region.ready .any ops listed).length]? with
   | some i => Region.linearise.go .any ops fuel (t / (Region.ready .any ops listed).length) (listed.setIfInBounds i true) [i]
   | none => [].reverse := rfl
  cases hi : (Region.ready .any ops listed)[t % (Region.ready .any ops listed).length]? with
  | none =>
   have hnil : Region.ready .any ops listed = [] := by
    cases hr : Region.ready .any ops listed with
    | nil => rfl
    | cons x xs =>
     rw [hr] at hi
     have hlt : t % (x :: xs).length < (x :: xs).length := Nat.mod_lt _ (by simp)
     simp at hi
     simp at hlt
     omega
   have hl : left ops listed = [] := by
    cases hl : left ops listed with
    | nil => rfl
    | cons x xs =>
     have := left_ready hb hs hl
     rw [hnil] at this; cases this
   rw [unf, hi]
   rw [hl] at h
   exact ⟨s2, by simpa [opsAt] using h, Eqv.refl _, fun i hi => by simp at hi⟩
  | some i =>
   rw [unf, hi]
   have hr : i ∈ Region.ready .any ops listed := List.mem_of_getElem? hi
   have hil := ready_left hr
   obtain ⟨hilt, hi0⟩ := mem_left.1 hil
   obtain ⟨pre, post, hpp⟩ := List.append_of_mem hil
   have hx : ops[i]? = some ops[i] := Array.getElem?_eq_getElem hilt
   have hsort : (left ops listed).Pairwise (· < ·) := List.Pairwise.filter _ List.pairwise_lt_range
   rw [hpp, opsAt_append, opsAt_cons _ hx] at h
   have hbound : ∀ j ∈ pre ++ i :: post, j < ops.size := fun j hj => (mem_left.1 (by rw [hpp]; exact hj : j ∈ left ops listed)).1
   have hdd : ∀ o ∈ opsAt ops pre ++ ops[i] :: opsAt ops post, dstOk c.h o := by
    have := hmem _ hbound
    rwa [opsAt_append, opsAt_cons _ hx] at this
   have hpair : ∀ y ∈ opsAt ops pre, pairG c ops.toList y ops[i] = true := fun y hy => by
    obtain ⟨j, hj, hjy⟩ := mem_opsAt.1 hy
    have hji : j < i := by
     rw [hpp] at hsort
     exact (List.pairwise_append.1 hsort).2.2 j hj i (by simp)
    rcases ho j i y ops[i] hji hjy hx with ha | hp
    ·exfalso
     have h1 := anc_listed hc _ j i ha (fun y hy e he hbe => ready_edge hr hy e he hbe)
     have h2 := (mem_left.1 (by rw [hpp]; simp [hj] : j ∈ left ops listed)).2
     rw [getD_tf h2] at h1; cases h1
    ·exact hp
   obtain ⟨s3, h3, e3⟩ := move_front hdd hpair h
   obtain ⟨s4, h4, h5⟩ := runG_cons.1 h3
   have hls := left_set hs hpp
   have hc' : Closed ops (listed.setIfInBounds i true) := by
    have mono : ∀ k, listed.getD k false = true → (listed.setIfInBounds i true).getD k false = true := fun k hk => by
     simp only [Array.getD_eq_getD_getElem?, Array.getElem?_setIfInBounds] at hk ⊢
     by_cases hik : i = k
     ·subst hik
      have : i < listed.size := by omega
      simp [this]
     ·simp only [hik, if_false]; exact hk
    intro j y hy hj e he hbe
    by_cases hij : i = j
    ·subst hij
     exact mono _ (ready_edge hr hy e he hbe)
    ·refine mono _ (hc j y hy ?_ e he hbe)
     simp only [Array.getD_eq_getD_getElem?, Array.getElem?_setIfInBounds, hij, if_false] at hj ⊢
     exact hj
   have hlen : (left ops (listed.setIfInBounds i true)).length ≤ fuel := by
    rw [hls]; rw [hpp] at hf
    simp only [List.length_append, List.length_cons] at hf ⊢
    omega
   obtain ⟨s5, h6, e6, hlt⟩ := sched hd hb ho fuel (t / (Region.ready .any ops listed).length) (listed.setIfInBounds i true) s4 s3 (by simpa using hs) hc' hlen (by rw [hls, opsAt_append]; exact h5)
   simp only []
   rw [linearise_go_acc, List.reverse_singleton, List.singleton_append, opsAt_cons _ hx]
   refine ⟨s5, runG_cons.2 ⟨s4, h4, h6⟩, e3.trans e6, fun j hj => ?_⟩
   rcases List.mem_cons.1 hj with rfl | hj
   ·exact hilt
   ·exact hlt j hj
theorem drawOkB_spec {H : FuncId → FH} {h : FH} {ops : Array Oper} (hb : drawOkB H h ops = true) (c : Cx) (hH : c.H = H) (hh : c.h = h) :
 (∀ o ∈ ops.toList, dstOk c.h o) ∧ edgesBack ops ∧ drawOk c ops := by
 subst hH; subst hh
 unfold drawOkB at hb
 rw [Bool.and_eq_true, List.all_eq_true, List.all_eq_true] at hb
 obtain ⟨h1, h2⟩ := hb
 have at' : ∀ (j : Nat) y, ops[j]? = some y → j ∈ List.range ops.size := fun j y hy => by
  rw [List.mem_range]; exact (Array.getElem?_eq_some_iff.1 hy).1
 refine ⟨fun o ho d hd => ?_, fun j y hy e he hbe => ?_, fun i j x y hij hx hy => ?_⟩
 ·have := h1 o ho
  rw [hd] at this
  simpa using this
 ·have := h2 j (at' j y hy)
  rw [hy] at this
  simp only [Bool.and_eq_true, List.all_eq_true] at this
  have := this.1 e (Array.mem_toList_iff.2 he)
  rw [hbe] at this
  simpa using this
 ·have := h2 j (at' j y hy)
  rw [hy] at this
  simp only [Bool.and_eq_true, List.all_eq_true] at this
  have := this.2 i (List.mem_range.2 hij)
  rw [hx] at this
  simp only [Bool.or_eq_true] at this
  rcases this with h | h
  ·exact .inr h
  ·exact .inl h
theorem left_none (ops : Array Oper) : left ops (Array.replicate ops.size false) = List.range ops.size := by
 unfold left
 rw [List.filter_eq_self]
 intro i hi
 rw [List.mem_range] at hi
 simp [Array.getD_eq_getD_getElem?, hi]
theorem opsAt_range (ops : Array Oper) : opsAt ops (List.range ops.size) = ops.toList := by
 have h := opsAt_map (ops := ops) (l := List.range ops.size) (fun i hi => List.mem_range.1 hi)
 have h2 : (List.range ops.size).map (fun i => ops[i]?) = ops.toList.map some := by
  apply List.ext_getElem?
  intro i
  simp only [List.getElem?_map, List.getElem?_range', Array.getElem?_toList]
  by_cases hi : i < ops.size
  ·simp [List.getElem?_range hi, Array.getElem?_eq_getElem hi]
  ·have : (List.range ops.size)[i]? = none := by simp; omega
   simp [this, Array.getElem?_eq_none (Nat.le_of_not_lt hi)]
 rw [h2] at h
 exact ((List.map_inj_right (fun a b e => by injection e)).1 h).symm
theorem sched_all {c : Cx} {ops : Array Oper} (hb : drawOkB c.H c.h ops = true) {s s1 : S} (h : stepOps c ops.toList ops.toList s = some (.ok s1)) (t : Nat) :
 ∃ l s2, Region.linearise .any ops t = l ∧ l.map (fun i => ops[i]?) = (opsAt ops l).map some ∧ runG c ops.toList (opsAt ops l) s = some (.ok s2) ∧ Eqv s1 s2 := by
 obtain ⟨hd, he, ho⟩ := drawOkB_spec hb c rfl rfl
 obtain ⟨s2, h2, e2⟩ := runG_of hd h
 have hcl : Closed ops (Array.replicate ops.size false) := fun j y _ hj => by
  exfalso
  simp only [Array.getD_eq_getD_getElem?, Array.getElem?_replicate] at hj
  split at hj <;> cases hj
 obtain ⟨s3, h3, e3, hlt⟩ := sched hd he ho ops.size t (Array.replicate ops.size false) s s2 (by simp) hcl (by rw [left_none]; simp) (by rw [left_none, opsAt_range]; exact h2)
 exact ⟨_, s3, rfl, opsAt_map hlt, h3, e2.trans e3⟩
end Go.AM
