/- A part of the abstract machine and its simulation. -/
import Derived.Test.YtbalikooghpmlaaDoorAmInv
set_option linter.unusedVariables false
set_option linter.unusedSimpArgs false
namespace Go.AM
open Go Go.RowKit
def tdMatch : TD → TypeDesc → Bool
 | .int k, .int k' => k == k'
 | .bool, .bool => true
 | .str, .string => true
 | .ptr e, .pointer e' => e == e'
 | .sl e, .slice e' => e == e'
 | .arr n e, .array n' e' => n == n' && e == e'
 | .map k e, .map k' e' => k == k' && e == e'
 | .st fs, .struct fields => fs == fields.toList.map fun f => (f.offset, f.type)
 | .fn, .func _ _ _ => true
 | .ifc, .interface _ => true
 | .tup ts, .tuple ts' => ts == ts'.toList
 | _, _ => false
def zCell : PV → Value → Bool
 | .lit (.int k n), .int k' m => k == k' && n == m
 | .lit (.bool b), .bool b' => b == b'
 | .lit (.string s), .string s' => s.size == 0 && s'.size == 0
 | .lit (.pointer none), .pointer none => true
 | .lit (.map none), .map none => true
 | .lit .nilFunc, .nilFunc => true
 | .lit .nilIface, .nilIface => true
 | .sl none _ [], .slice none 0 0 => true
 | _, _ => false
def zCells : List PV → List Value → Bool
 | [], [] => true
 | p :: ps, v :: vs => zCell p v && zCells ps vs
 | _, _ => false
theorem zCell_rel {p : PV} {v : Value} (h : zCell p v = true) (Φ : Mem) : one v = true ∧ RelP Φ p v := by
 unfold zCell at h
 split at h <;> first | (cases h; done) | skip
 all_goals (first | (simp at h) | skip)
 ·obtain ⟨rfl, rfl⟩ := h; exact ⟨rfl, by unfold RelP; exact ⟨rfl, rfl⟩⟩
 ·subst h; exact ⟨rfl, by unfold RelP; exact ⟨rfl, rfl⟩⟩
 ·obtain ⟨h1, h2⟩ := h
  first | subst h1 | skip
  first | subst h2 | skip
  first | rw [bytes_empty h1, bytes_empty h2] | skip
  exact ⟨rfl, by unfold RelP; exact ⟨rfl, rfl⟩⟩
 ·exact ⟨rfl, by unfold RelP; exact ⟨rfl, rfl⟩⟩
 ·exact ⟨rfl, by unfold RelP; exact ⟨rfl, rfl⟩⟩
 ·exact ⟨rfl, by unfold RelP; exact ⟨rfl, rfl⟩⟩
 ·exact ⟨rfl, by unfold RelP; exact ⟨rfl, rfl⟩⟩
 ·exact ⟨rfl, by unfold RelP; exact ⟨none, 0, rfl, Nat.le_refl _, (fun h => by cases h), (fun h => by cases h), .inl ⟨rfl, rfl⟩⟩⟩
theorem zCells_rel (Φ : Mem) : ∀ {ps : List PV} {vs : List Value}, zCells ps vs = true → RelP1 Φ ps vs
 | [], [], _ => by unfold RelP1; rfl
 | p :: ps, v :: vs, h => by
  simp [zCells] at h
  unfold RelP1
  obtain ⟨h1, h2⟩ := zCell_rel h.1 Φ
  exact ⟨v, vs, rfl, h1, h2, zCells_rel Φ h.2⟩
 | [], _ :: _, h => by simp [zCells] at h
 | _ :: _, [], h => by simp [zCells] at h
theorem zA_rel {p : PV} {v : Value} (h : zCell p v = true) (g : G) (tg : Nat → Prop) : one v = true ∧ RelA g tg (zA p) v := by
 obtain ⟨h1, h2⟩ := zCell_rel h g.Φ
 refine ⟨h1, ?_⟩
 cases p with
 | sl nl sz rows =>
  unfold zA RelA
  cases nl with
  | some b => simp [zCell] at h
  | none =>
   cases rows with
   | cons r rs => simp [zCell] at h
   | nil =>
    refine .inl ⟨?_, rfl⟩
    cases v with
    | slice a l c =>
     cases a with
     | some a => simp [zCell] at h
     | none =>
      cases l with
      | succ l => simp [zCell] at h
      | zero =>
       cases c with
       | succ c => simp [zCell] at h
       | zero => rfl
    | _ => simp [zCell] at h
 | _ => unfold zA RelA; exact h2
theorem zCells_get : ∀ {ps : List PV} {vs : List Value}, zCells ps vs = true → ps.length = vs.length ∧ ∀ (j : Nat) p, ps[j]? = some p → ∃ v, vs[j]? = some v ∧ zCell p v = true
 | [], [], _ => ⟨rfl, by simp⟩
 | p :: ps, v :: vs, h => by
  simp [zCells] at h
  obtain ⟨h1, h2⟩ := zCells_get h.2
  refine ⟨by simp [h1], fun j q hj => ?_⟩
  cases j with
  | zero => simp at hj; subst hj; exact ⟨v, by simp, h.1⟩
  | succ j => simp at hj ⊢; exact h2 j q hj
 | [], _ :: _, h => by simp [zCells] at h
 | _ :: _, [], h => by simp [zCells] at h
def eqTyOk (P : Program) (t : TypeId) : TypeDesc → Bool
 | .struct fs => !P.stoodInHeld t && !P.eqGuardType P.depth t && fs.toList.all fun f => f.name != "_"
 | _ => true
def zForm (d : TD) : Value → Bool
 | .agg _ => d.agg? != some false
 | _ => d.agg? != some true
def tiOk (P : Program) (t : TypeId) (ti : TI) : Bool :=
 match ti.d with
 | .other => true
 | d => match P.info? t, P.underlying t with
  | some i, some u => i.size == ti.size && i.bytes == ti.bytes && tdMatch d u && (!ti.eq || eqTyOk P t u) &&
   (match i.zero with
    | some z => zForm ti.d z && zCells ti.zero z.cells.toList && ti.zero.length == ti.size || (ti.zero.length != ti.size)
    | none => ti.zero.length != ti.size)
  | _, _ => false
def tysOk (P : Program) : Nat → List TI → Bool
 | _, [] => true
 | t, ti :: r => tiOk P t ti && tysOk P (t + 1) r
def fldOk (P : Program) (T : Tab) (f : Nat × TypeId) : Bool :=
 match P.info? f.2 with
 | some i => i.size == (T.at f.2).size
 | none => false
def fldsOk (P : Program) (T : Tab) : List TI → Bool
 | [] => true
 | ti :: r => (match ti.d with | .st fs => fs.all (fldOk P T) | _ => true) && fldsOk P T r
theorem fldsOk_get {P : Program} {T : Tab} : ∀ {l : List TI}, fldsOk P T l = true → ∀ ti, ti ∈ l → ∀ fs, ti.d = .st fs → ∀ f, f ∈ fs → fldOk P T f = true
 | x :: l, h, ti, hi, fs, hd, f, hf => by
  simp only [fldsOk, Bool.and_eq_true] at h
  rcases List.mem_cons.1 hi with rfl | hi
  ·have := h.1
   rw [hd] at this
   exact List.all_eq_true.1 this f hf
  ·exact fldsOk_get h.2 ti hi fs hd f hf
structure TyOk (P : Program) (t : TypeId) (ti : TI) : Prop where
 out : ∃ i u, P.info? t = some i ∧ P.underlying t = some u ∧ i.size = ti.size ∧ i.bytes = ti.bytes ∧ tdMatch ti.d u = true ∧
  (ti.zero.length = ti.size → ∃ z, i.zero = some z ∧ z.cells.size = ti.size ∧ (∀ Φ, RelP1 Φ ti.zero z.cells.toList) ∧ zCells ti.zero z.cells.toList = true)
 eq : ti.eq = true → ∀ fs, ti.d = .st fs → ∃ fields, P.underlying t = some (.struct fields) ∧ fs = (fields.toList.map fun f => (f.offset, f.type)) ∧ P.stoodInHeld t = false ∧ P.eqGuardType P.depth t = false ∧ ∀ f ∈ fields.toList, f.name ≠ "_"
 zf : ti.zero.length = ti.size → ∀ i z, P.info? t = some i → i.zero = some z → zForm ti.d z = true
structure TabOk (P : Program) (T : Tab) : Prop where
 ty : ∀ t, (T.at t).d ≠ .other → TyOk P t (T.at t)
 fld : ∀ t fs, (T.at t).d = .st fs → ∀ f, f ∈ fs → ∃ i, P.info? f.2 = some i ∧ i.size = (T.at f.2).size
theorem tiOk_ok {P : Program} {t : TypeId} {ti : TI} (h : tiOk P t ti = true) (hd : ti.d ≠ .other) : TyOk P t ti := by
 unfold tiOk at h
 split at h
 ·rename_i he; exact absurd he hd
 ·split at h
  ·rename_i i u hi hu
   simp only [Bool.and_eq_true, beq_iff_eq] at h
   obtain ⟨⟨⟨⟨h1, h2⟩, h3⟩, hq⟩, h4⟩ := h
   refine ⟨⟨i, u, hi, hu, h1, h2, h3, fun hl => ?_⟩, fun hqe fs hfs => ?_, fun hl i' z hi' hz => ?_⟩
   rotate_left
   ·rw [hfs] at h3
    rw [hqe] at hq
    cases u <;> simp [tdMatch] at h3
    rename_i fields
    simp [eqTyOk] at hq
    exact ⟨fields, hu, h3, hq.1.1, hq.1.2, fun f hf => by
     obtain ⟨i, hi, rfl⟩ := List.mem_iff_getElem.1 hf
     simpa using hq.2 i (by simpa using hi)⟩
   ·rw [hi] at hi'; injection hi' with hi'; subst hi'
    rw [hz] at h4
    simp only [Bool.or_eq_true, Bool.and_eq_true, beq_iff_eq, bne_iff_ne, ne_eq] at h4
    rcases h4 with ⟨⟨h6, _⟩, _⟩ | h5
    ·exact h6
    ·exact absurd hl h5
   split at h4
   ·rename_i z hz
    simp only [Bool.or_eq_true, Bool.and_eq_true, beq_iff_eq, bne_iff_ne, ne_eq] at h4
    rcases h4 with ⟨⟨_, h5⟩, h6⟩ | h5
    ·have hr : ∀ Φ, RelP1 Φ ti.zero z.cells.toList := fun Φ => zCells_rel Φ h5
     refine ⟨z, hz, ?_, hr, h5⟩
     have := (hr (fun _ _ => none)).get.1
     simp only [Array.length_toList] at this
     omega
    ·exact absurd hl h5
   ·simp only [bne_iff_ne, ne_eq] at h4; exact absurd hl h4
  ·cases h
theorem tysOk_get {P : Program} : ∀ {l : List TI} {t : Nat}, tysOk P t l = true → ∀ (i : Nat) ti, l[i]? = some ti → tiOk P (t + i) ti = true
 | [], t, _, i, ti, hi => by simp at hi
 | x :: l, t, h, i, ti, hi => by
  simp only [tysOk, Bool.and_eq_true] at h
  cases i with
  | zero => simp at hi; subst hi; exact h.1
  | succ i =>
   simp at hi
   have := tysOk_get h.2 i ti hi
   rwa [show t + 1 + i = t + (i + 1) by omega] at this
theorem tabOk_of {P : Program} {T : Tab} (h : tysOk P 0 T.ty = true) (hf : fldsOk P T T.ty = true) : TabOk P T := by
 have e : ∀ t, T.at t = T.ty.getD t ⟨.other, 0, 0, [], false⟩ := fun t => rfl
 refine ⟨fun t hd => ?_, fun t fs hd f hff => ?_⟩
 ·have e := e t
  rw [List.getD_eq_getElem?_getD] at e
  cases ht : T.ty[t]? with
  | none => rw [ht] at e; rw [e] at hd; exact absurd rfl hd
  | some ti =>
   rw [ht] at e
   rw [e] at hd ⊢
   have := tysOk_get h t ti ht
   rw [Nat.zero_add] at this
   exact tiOk_ok this hd
 ·have e := e t
  rw [List.getD_eq_getElem?_getD] at e
  cases ht : T.ty[t]? with
  | none => rw [ht] at e; rw [e] at hd; cases hd
  | some ti =>
   rw [ht] at e
   rw [e] at hd
   have := fldsOk_get hf ti (List.mem_of_getElem? ht) fs hd f hff
   unfold fldOk at this
   split at this
   ·rename_i i hi; exact ⟨i, hi, by simpa using this⟩
   ·cases this
section
variable {P : Program} {T : Tab} (hT : TabOk P T)
include hT
theorem TabOk.size {t : TypeId} (h : (T.at t).d ≠ .other) (w : World) : (sizeOf t).run P w = .ok (T.at t).size w := by
 obtain ⟨i, u, hi, hu, h1, h2, h3, h4⟩ := (hT.ty t h).out
 simp [sizeOf, typeInfo, hi, h1]
theorem TabOk.isAgg {t : TypeId} {b : Bool} (h : (T.at t).d.agg? = some b) (w : World) : (isAgg t).run P w = .ok b w := by
 have hd : (T.at t).d ≠ .other := by intro e; rw [e] at h; cases h
 obtain ⟨i, u, hi, hu, h1, h2, h3, h4⟩ := (hT.ty t hd).out
 have hr := run_underlying (P := P) hu w
 unfold Go.isAgg
 simp only [Sem.run_bind, hr, Result.andThen_ok]
 revert h h3 hd
 generalize (T.at t).d = d
 intro h hd h3
 cases d <;> cases u <;> simp [tdMatch] at h3 <;> simp [TD.agg?] at h <;> subst h <;> rfl
omit hT in
theorem TabOk.notOther {t : TypeId} {b : Bool} (h : (T.at t).d.agg? = some b) : (T.at t).d ≠ .other := by intro e; rw [e] at h; cases h
theorem run_loadAgg {t : TypeId} (h : (T.at t).d.agg? = some true) {a : Addr} {us : List Value} (hl : us.length = (T.at t).size) {w : World} (hc : ∀ (j : Nat) v, us[j]? = some v → w.cell? (a.add j) = some v) :
 (loadVar t a).run P w = .ok (.agg us.toArray) w := by
 unfold loadVar
 have h1 := run_loadCells_list (P := P) w a us hc
 simp [hT.isAgg h, hT.size (TabOk.notOther h), ← hl, h1]
theorem run_loadOne {t : TypeId} (h : (T.at t).d.agg? = some false) {a : Addr} {u : Value} {w : World} (hc : w.cell? a = some u) : (loadVar t a).run P w = .ok u w := by
 unfold loadVar
 simp [hT.isAgg h, hc]
theorem run_storeVar {t : TypeId} (h : (T.at t).d ≠ .other) {b o : Nat} {v : Value} {w : World} {C : Array Value} {e : TypeId} (hb : w.heap[b]? = some (.cells C e (0, 0))) (hs : v.cells.size = (T.at t).size) (ho : o + v.cells.size ≤ C.size)
 (h1 : ∀ u ∈ v.cells.toList, one u = true) :
 (storeVar t ⟨b, o, none⟩ v).run P w = .ok () (w.setRow b (C.toList.take o ++ v.cells.toList ++ C.toList.drop (o + v.cells.size)).toArray) := by
 unfold storeVar
 have hst := run_storeCells_at P b o e v.cells.toList 0 C w hb (by simpa using ho) (fun u hu => by have := h1 u hu; cases u <;> first | rfl | cases this)
 simp only [Nat.add_zero, Array.length_toList] at hst
 simp [hT.size h, hs, hst]
omit hT in
theorem run_newVar (t : TypeId) (v : Value) (w : World) : (newVar t v).run P w = .ok ⟨w.heap.size, 0, none⟩ (w.alloc (.cells v.cells t)) := by
 simp [newVar, newRow]
end
end Go.AM
