/- A part of the abstract machine and its simulation. -/
import Derived.Test.YtbalikooghpmlaaDoorAmOps7
set_option linter.unusedVariables false
set_option linter.unusedSimpArgs false
namespace Go.AM
open Go Go.RowKit
theorem foldl_lay (off : Nat) : ∀ (us : List Value) (k : Nat) (C : Array Value), off + k + us.length ≤ C.size →
 ((us.zipIdx k).foldl (fun (cs : Array Value) (p : Value × Nat) => cs.setIfInBounds (off + p.2) p.1) C).size = C.size ∧
 ∀ j, ((us.zipIdx k).foldl (fun (cs : Array Value) (p : Value × Nat) => cs.setIfInBounds (off + p.2) p.1) C)[j]? = if j < off + k then C[j]? else if j < off + k + us.length then us[j - (off + k)]? else C[j]?
 | [], k, C, _ => by
  refine ⟨rfl, fun j => ?_⟩
  simp only [List.zipIdx_nil, List.foldl_nil, List.length_nil, Nat.add_zero]
  split
  ·rfl
  ·rfl
 | u :: us, k, C, h => by
  simp only [List.length_cons] at h
  obtain ⟨h1, h2⟩ := foldl_lay off us (k + 1) (C.setIfInBounds (off + k) u) (by simp; omega)
  simp only [List.zipIdx_cons, List.foldl_cons]
  refine ⟨by rw [h1]; simp, fun j => ?_⟩
  rw [h2]
  simp only [List.length_cons]
  rcases Nat.lt_trichotomy j (off + k) with h' | h' | h'
  ·rw [if_pos (by omega), if_pos h', Array.getElem?_setIfInBounds_ne (by omega)]
  ·subst h'
   rw [if_pos (by omega), if_neg (Nat.lt_irrefl _), if_pos (by omega), Nat.sub_self, Array.getElem?_setIfInBounds_self_of_lt (by omega)]; rfl
  ·rw [if_neg (show ¬ j < off + (k + 1) by omega), if_neg (show ¬ j < off + k by omega)]
   by_cases h3 : j < off + k + (us.length + 1)
   ·rw [if_pos (by omega), if_pos h3, show j - (off + k) = (j - (off + (k + 1))) + 1 by omega]; rfl
   ·rw [if_neg (by omega), if_neg h3, Array.getElem?_setIfInBounds_ne (by omega)]
def layA (off : Nat) (us : Array Value) (C : Array Value) : Array Value := us.zipIdx.foldl (fun cs p => cs.setIfInBounds (off + p.2) p.1) C
theorem layA_get (off : Nat) (us C : Array Value) (h : off + us.size ≤ C.size) :
 (layA off us C).size = C.size ∧ ∀ j, (layA off us C)[j]? = if j < off then C[j]? else if j < off + us.size then us[j - off]? else C[j]? := by
 have := foldl_lay off us.toList 0 C (by simpa using h)
 unfold layA
 rw [← Array.foldl_toList, Array.toList_zipIdx]
 simpa using this
theorem fill_cons (place : Nat → Option (Nat × Nat)) (C : Array Value) (i : Nat) (v : Value) (rest : List (Nat × Value)) {off size : Nat} (hp : place i = some (off, size)) (hs : v.cells.size = size) (hf : off + v.cells.size ≤ C.size) :
 Instr.fill place C ((i, v) :: rest) = Instr.fill place (layA off v.cells C) rest := by
 conv => lhs; unfold Instr.fill
 simp only [hp]
 rw [if_neg (by simp [hs]; omega)]
 rfl
section
variable {GL : List (Nat × List PV)} {B0 : Nat} {w0 : World} {g : G} {s : S} {tm : Array Value} {w : World} {ty : List TI} {P : Program} {H : FuncId → FH} {C : CallF} {h : FH} {base : Nat}
theorem Inv.rdB {env : Env} {σ : List AObj} (hI : Inv GL B0 w0 g env σ tm w) (x : Operand) : RelA g (fun _ => False) (rdB ⟨ty, GL⟩ env x) (evT tm x) := by
 unfold AM.rdB
 have h := hI.rd (ty := ty) x
 generalize AM.rd ⟨ty, GL⟩ env x = v at h
 cases v with
 | agg cs =>
  have h' := h.copy
  show RelA g _ (.agg cs) _
  cases x with
  | tmp t =>
   have h : RelS g t (.agg cs) (evT tm (.tmp t)) := h
   unfold RelS at h
   unfold RelA at h ⊢
   exact h
  | _ =>
   have h : RelA g (fun _ => False) (.agg cs) _ := h
   unfold RelA at h ⊢
   exact h
 | p pv =>
  have h := h.copy
  cases pv with
  | sl nl sz rows =>
   rcases nl with _ | _ | _
   ·exact h
   ·have h : RelA g (fun _ => False) (.p (.sl (some false) sz rows)) _ := h
    show RelA g (fun _ => False) (.own sz rows) _
    unfold RelA RelP at h
    unfold RelA
    obtain ⟨a, cap, e, hl, hn, hf, hs⟩ := h
    obtain ⟨h1, h2⟩ := hf rfl
    rcases hs with ⟨h3, _⟩ | ⟨ad, rfl, es, hk⟩
    ·exact absurd h3 h1
    ·exact .inr ⟨ad, cap, e, hl, es, hk, fun hlt => by omega⟩
   ·exact h
  | _ => exact h
 | _ => exact h.copy
theorem rdc_cells {env : Env} (hI : Inv GL B0 w0 g env s.σ tm w) (x : Operand) (hs : storable (rdB ⟨ty, GL⟩ env x) = true) : RelA1 g (cellsOf (rdB ⟨ty, GL⟩ env x)) (evT tm x).cells.toList :=
 cellsOf_rel (hI.rdB (ty := ty) x) hs
theorem fill_rel (hI : Inv GL B0 w0 g s.env s.σ tm w) {place place' : Nat → Option (Nat × Nat)} (hpl : ∀ i p, place i = some p → place' i = some p) : ∀ (parts : List (Nat × Operand)) (cs cs' : List AV) (D : Array Value),
 RelA1 g cs D.toList → fillV place (parts.map fun p => (p.1, rdB ⟨ty, GL⟩ s.env p.2)) cs = some cs' →
 ∃ D', Instr.fill place' D (parts.map fun p => (p.1, evT tm p.2)) = some D' ∧ RelA1 g cs' D'.toList
 | [], cs, cs', D, hr, hf => by
  simp only [List.map_nil, fillV] at hf
  injection hf with hf; subst hf
  exact ⟨D, rfl, hr⟩
 | (i, x) :: parts, cs, cs', D, hr, hf => by
  simp only [List.map_cons, fillV] at hf
  split at hf
  ·rename_i off size hp
   split at hf
   ·rename_i hc
    obtain ⟨h1, h2, h3⟩ := hc
    have hx := rdc_cells (ty := ty) hI x h3
    obtain ⟨l, f⟩ := hx.get
    obtain ⟨l', f'⟩ := hr.get
    simp only [Array.length_toList] at l l'
    have hsz : (evT tm x).cells.size = size := by omega
    have hfit : off + (evT tm x).cells.size ≤ D.size := by omega
    obtain ⟨s1, s2⟩ := layA_get off (evT tm x).cells D hfit
    obtain ⟨D', hD, hR⟩ := fill_rel hI hpl parts _ cs' (layA off (evT tm x).cells D) (by
     have hl : (setCells cs off (cellsOf (rdB ⟨ty, GL⟩ s.env x))).length = cs.length := setCells_len _ _ _ (by omega)
     refine RelA1.mk (by rw [hl]; simp [s1, l']) fun j c hj => ?_
     rw [setCells_get _ _ _ (by omega)] at hj
     rw [Array.getElem?_toList, s2]
     by_cases h4 : j < off
     ·rw [if_pos h4] at hj ⊢
      simpa using f' j c hj
     ·rw [if_neg h4] at hj ⊢
      by_cases h5 : j < off + (cellsOf (rdB ⟨ty, GL⟩ s.env x)).length
      ·rw [if_pos h5] at hj; rw [if_pos (by omega)]
       simpa using f (j - off) c hj
      ·rw [if_neg h5] at hj; rw [if_neg (by omega)]
       simpa using f' j c hj) hf
    refine ⟨D', ?_, hR⟩
    simp only [List.map_cons]
    rw [fill_cons place' D i _ _ (hpl i _ hp) hsz hfit]
    exact hD
   ·cases hf
  ·cases hf
theorem parts_map (parts : Array (Nat × Operand)) : (parts.map fun p => (p.1, evT tm p.2)).toList = parts.toList.map fun p => (p.1, evT tm p.2) := by simp
theorem sizes_run {P : Program} {w : World} : ∀ (fields : List Field) (hd : ∀ f ∈ fields, (P.info? f.type).isSome = true), ∃ l : List (Nat × Nat), (fields.mapM (fun f => do pure (f.offset, ← sizeOf f.type) : Field → Sem (Nat × Nat))).run P w = .ok l w ∧ l.length = fields.length ∧
 ∀ (i : Nat) f, fields[i]? = some f → ∃ z : TypeInfo, P.info? f.type = some z ∧ l[i]? = some (f.offset, z.size)
 | [], _ => ⟨[], by simp, rfl, fun i f h => by simp at h⟩
 | f :: fs, hd => by
  obtain ⟨l, h1, h2, h3⟩ := sizes_run (w := w) fs (fun f hf => hd f (by simp [hf]))
  obtain ⟨z, hz⟩ := Option.isSome_iff_exists.1 (hd f (by simp))
  refine ⟨(f.offset, z.size) :: l, ?_, by simp [h2], fun i f' hi => ?_⟩
  ·simp [sizeOf, typeInfo, hz] at h1 ⊢
   simp [h1]
  ·cases i with
   | zero => simp at hi; subst hi; exact ⟨z, hz, by simp⟩
   | succ i => simp at hi; simpa using h3 i f' hi
theorem sizes_runA {P : Program} {w : World} (fields : Array Field) (hd : ∀ f ∈ fields, (P.info? f.type).isSome = true) : ∃ l : Array (Nat × Nat), (fields.mapM (fun f => do pure (f.offset, ← sizeOf f.type) : Field → Sem (Nat × Nat))).run P w = .ok l w ∧
 ∀ (i : Nat) f, fields[i]? = some f → ∃ z : TypeInfo, P.info? f.type = some z ∧ l[i]? = some (f.offset, z.size) := by
 obtain ⟨l, h1, h2, h3⟩ := sizes_run (P := P) (w := w) fields.toList (fun f hf => hd f (by simpa using hf))
 refine ⟨l.toArray, ?_, fun i f hi => by simpa using h3 i f (by simpa using hi)⟩
 rw [Array.mapM_eq_mapM_toList]
 simp only [map_eq_pure_bind, Sem.run_bind, h1, Result.andThen_ok, Sem.run_pure]
theorem sim_build (hT : TabOk P ⟨ty, GL⟩) {o : Oper} {t : TypeId} {parts : Array (Nat × Operand)} (ho : o.op = .build t parts) (hI : Inv GL B0 w0 g s.env s.σ tm w) (hd : ∀ d, o.dst = some d → d < tm.size) {s' : S} (hs : stepOp0 ⟨⟨ty, GL⟩, H, C, h, base⟩ o s = some (.ok s')) :
 SimR GL B0 w0 g w s'.env s'.σ tm o.dst ((execOp (evT tm) o).run P w) := by
 unfold stepOp0 at hs
 rw [ho] at hs
 dsimp only at hs
 split at hs
 ·cases hs
 ·rename_i hz
  have hb : buildOk ⟨ty, GL⟩ t = true := by simpa using hz
  have hzo : zeroOk ⟨ty, GL⟩ t = true := by
   unfold buildOk at hb
   split at hb
   ·exact hb
   ·simp only [Bool.and_eq_true] at hb; exact hb.1
   ·cases hb
  obtain ⟨hno, hl⟩ := zeroOk_ok hzo
  obtain ⟨z, hzr, hzs, hzrel, i, hi, hiz, his, hib⟩ := zero_rel hT hno hl g w
  split at hs
  ·rename_i cs hf
   injection hs with hs; injection hs with hs; subst hs
   have fin : ∀ {place' : Nat → Option (Nat × Nat)}, (∀ i p, placeOf ⟨ty, GL⟩ t i = some p → place' i = some p) → (∀ D, Instr.fill place' z.cells (parts.map fun p => (p.1, evT tm p.2)).toList = some D → (execOp (evT tm) o).run P w = .ok (.value (.agg D)) w) →
    SimR GL B0 w0 g w (s.put o.dst (mkAgg cs)).env (s.put o.dst (mkAgg cs)).σ tm o.dst ((execOp (evT tm) o).run P w) := by
    intro place' hp hrun
    obtain ⟨D, hD, hR⟩ := fill_rel (ty := ty) hI hp parts.toList _ cs z.cells (zero_relA' hT hno hl g hzr) hf
    rw [← parts_map] at hD
    have hr := hrun D hD
    have := mkAgg_rel (tg := fun _ => False) hR
    rw [Array.toArray_toList] at this
    exact SimR.value hI hd this hr
   cases hde : (Tab.at ⟨ty, GL⟩ t).d with
   | st fs =>
    obtain ⟨fields, hu, rfl⟩ := hT.st hde
    have hfl := hT.fld t _ hde
    have hinf : ∀ f ∈ fields, ∃ i, P.info? f.type = some i ∧ i.size = (Tab.at ⟨ty, GL⟩ f.type).size := fun f hf => by
     have := hfl (f.offset, f.type) (by simpa using ⟨f, hf, rfl, rfl⟩)
     exact this
    obtain ⟨l, hl1, hl2⟩ := sizes_runA (P := P) (w := w) fields (fun f hf => by obtain ⟨i, hi, _⟩ := hinf f hf; simp [hi])
    refine fin (place' := (l[·]?)) (fun i p hp => ?_) (fun D hD => ?_)
    ·unfold placeOf at hp
     rw [hde] at hp
     dsimp only at hp
     rw [List.getElem?_map] at hp
     cases hfi : fields.toList[i]? with
     | none => rw [hfi] at hp; cases hp
     | some f =>
      rw [hfi] at hp
      simp only [Option.map_some] at hp
      injection hp with hp; subst hp
      obtain ⟨zi, hz1, hz2⟩ := hl2 i f (by simpa using hfi)
      obtain ⟨i', hi', hs'⟩ := hinf f (by simpa using List.mem_of_getElem? hfi)
      rw [hz1] at hi'; injection hi' with hi'; subst hi'
      rw [hz2, hs']
    ·unfold execOp; rw [ho]
     simp only [Instr.build, Sem.run_bind, hzr, Result.andThen_ok, run_underlying hu, hl1, hD, Sem.run_pure]
   | arr n e =>
    have hu := hT.arr hde
    refine fin (place' := fun i => some (i * (Tab.at ⟨ty, GL⟩ e).size, (Tab.at ⟨ty, GL⟩ e).size)) (fun i p hp => ?_) (fun D hD => ?_)
    ·unfold placeOf at hp
     rw [hde] at hp
     exact hp
    ·have hse : sizedOk ⟨ty, GL⟩ e = true := by
      unfold buildOk at hb
      rw [hde] at hb
      simp only [Bool.and_eq_true] at hb; exact hb.2
     unfold execOp; rw [ho]
     simp only [Instr.build, Sem.run_bind, hzr, Result.andThen_ok, run_underlying hu, hT.size (sizedOk_ok hse).1, hD, Sem.run_pure]
   | _ =>
    unfold buildOk at hb
    rw [hde] at hb
    cases hb
  ·cases hs
end
end Go.AM
