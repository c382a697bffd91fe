/- A part of the abstract machine and its simulation. -/
import Derived.Test.YtbalikooghpmlaaDoorAmOps
import Derived.Laws.Rows
import Derived.Laws.Tables
set_option linter.unusedVariables false
set_option linter.unusedSimpArgs false
namespace Go.AM
open Go Go.RowKit
def PlA : AV → Nat → Pl
 | .ptr id _, k => .cell id k
 | .ep id _ i _, k => .elem id i k
 | _, k => .cell 0 k
section
variable {GL : List (Nat × List PV)} {B0 : Nat} {w0 : World} {g : G} {env : Env} {σ : List AObj} {tm : Array Value} {w : World}
theorem Blk.cell {b : Nat} {C : Array Value} (h : Blk w b C) (j : Nat) : w.cell? ⟨b, j, none⟩ = C[j]? := by
 obtain ⟨e, h⟩ := h
 exact cell_of_row w b j C e (0, 0) h
theorem laid_get (C : Array Value) (o : Nat) (Us : List Value) (ho : o + Us.length ≤ C.size) (j : Nat) :
 (C.toList.take o ++ Us ++ C.toList.drop (o + Us.length))[j]? = if j < o then C[j]? else if j < o + Us.length then Us[j - o]? else C[j]? := by
 have hl : (C.toList.take o).length = o := by simp; omega
 by_cases h1 : j < o
 ·rw [if_pos h1, List.append_assoc, List.getElem?_append_left (by rw [hl]; exact h1), List.getElem?_take, if_pos h1]; simp
 ·rw [if_neg h1]
  by_cases h2 : j < o + Us.length
  ·rw [if_pos h2, List.getElem?_append_left (by simp; omega), List.getElem?_append_right (by rw [hl]; omega), hl]
  ·rw [if_neg h2, List.getElem?_append_right (by simp; omega), List.getElem?_drop]
   simp only [List.length_append, hl]
   rw [show o + Us.length + (j - (o + Us.length)) = j by omega]; simp
theorem setCells_get (cs : List AV) (o : Nat) (vs : List AV) (ho : o + vs.length ≤ cs.length) (j : Nat) :
 (setCells cs o vs)[j]? = if j < o then cs[j]? else if j < o + vs.length then vs[j - o]? else cs[j]? := by
 unfold setCells
 have hl : (cs.take o).length = o := by simp; omega
 by_cases h1 : j < o
 ·rw [if_pos h1, List.append_assoc, List.getElem?_append_left (by rw [hl]; exact h1), List.getElem?_take, if_pos h1]
 ·rw [if_neg h1]
  by_cases h2 : j < o + vs.length
  ·rw [if_pos h2, List.getElem?_append_left (by simp; omega), List.getElem?_append_right (by rw [hl]; omega), hl]
  ·rw [if_neg h2, List.getElem?_append_right (by simp; omega), List.getElem?_drop]
   simp only [List.length_append, hl]
   rw [show o + vs.length + (j - (o + vs.length)) = j by omega]
theorem setCells_len (cs : List AV) (o : Nat) (vs : List AV) (ho : o + vs.length ≤ cs.length) : (setCells cs o vs).length = cs.length := by
 unfold setCells
 simp; omega
theorem writeAt_len (σ : List AObj) (a : AV) (r : List AV) : (writeAt σ a r).length = σ.length := by
 cases a <;> simp only [writeAt] <;> first | rfl | simp | skip
 split <;> simp
theorem writeAt_other {σ : List AObj} {a : AV} {r : List AV} {id : Nat} (h : id ≠ idOf a) : (writeAt σ a r)[id]? = σ[id]? := by
 cases a with
 | ptr i o => exact List.getElem?_set_ne (fun e => h e.symm)
 | ep i gn k j =>
  simp only [writeAt]
  split
  ·exact List.getElem?_set_ne (fun e => h e.symm)
  ·rfl
 | _ => rfl
def Out' (p : Pl) : Prop := (∀ t, p ≠ .slot t) ∧ ∀ t i, p ≠ .comp t i
def OutA (a : AV) (p : Pl) : Prop := Out' p ∧ ∀ k, p ≠ PlA a k
theorem OutA.obj (a : AV) (id : Nat) : OutA a (.obj id) := ⟨⟨fun _ => by simp, fun _ _ => by simp⟩, fun k => by cases a <;> simp [PlA]⟩
structure At (g : G) (w : World) (a : AV) (cs : List AV) (off : Nat) (V : Value) (e : ME) (o0 : Nat) (C : Array Value) : Prop where
 V : V = .pointer (some ⟨e.blk, o0 + off, none⟩)
 blk : Blk w e.blk C
 tag : g.tag e.blk = some (.obj (idOf a))
 Φ : ∀ o, g.Φ e.blk o = none
 size : o0 + cs.length ≤ C.size
 cell : ∀ (k : Nat) c, cs[k]? = some c → ∃ u, C[o0 + k]? = some u ∧ one u = true ∧ RelA g (fun b => g.tag b = some (PlA a k)) c u
theorem Inv.write (hI : Inv GL B0 w0 g env σ tm w) {a : AV} {V : Value} {tg : Nat → Prop} (ha : RelA g tg a V) {cs : List AV} {off : Nat} (hr : readAt σ a = some (cs, off)) :
 ∃ e o0 C, At g w a cs off V e o0 C ∧
  ∀ (g' : G) (w' : World) (C' : Array Value) (cs' : List AV), Gle g g' → KeepPl g g' w w (OutA a) → g'.μ = g.μ → (∀ b, b ≠ e.blk → w'.heap[b]? = w.heap[b]?) → Blk w' e.blk C' → C'.size = C.size → cs'.length = cs.length →
   (∀ j, j < o0 ∨ o0 + cs.length ≤ j → C'[j]? = C[j]?) →
   (∀ (k : Nat) c, cs'[k]? = some c → ∃ u, C'[o0 + k]? = some u ∧ one u = true ∧ RelA g' (fun b => g'.tag b = some (PlA a k)) c u) →
   ∀ (id : Nat) o, (writeAt σ a cs')[id]? = some o → RelObj g' w' id o := by
 have rest : ∀ (e : ME), g.tag e.blk = some (.obj (idOf a)) → ∀ (g' : G) (w' : World) (cs' : List AV), Gle g g' → KeepPl g g' w w (OutA a) → g'.μ = g.μ → (∀ b, b ≠ e.blk → w'.heap[b]? = w.heap[b]?) →
  ∀ (id : Nat) o, id ≠ idOf a → (writeAt σ a cs')[id]? = some o → RelObj g' w' id o := by
  intro e ht g' w' cs' hg hk hμ hw id o hid ho
  rw [writeAt_other hid] at ho
  have hk' : KeepPl g g' w w' (fun p => OutA a p ∧ p ≠ .obj (idOf a)) := fun b pl hb hA => by
   obtain ⟨k1, k2, k3, k4⟩ := hk b pl hb hA.1
   refine ⟨k1, k2, k3, hw b fun e' => ?_⟩
   subst e'; rw [ht] at hb; injection hb with hb; exact hA.2 hb.symm
  refine (hI.objs id o ho).keep hg hk' ⟨OutA.obj a id, ?_⟩ (fun j => ⟨⟨⟨fun _ => by simp, fun _ _ => by simp⟩, fun k => ?_⟩, by simp⟩) (fun i j => ⟨⟨⟨fun _ => by simp, fun _ _ => by simp⟩, fun k => ?_⟩, by simp⟩) (fun e he _ => by rw [hμ]; exact he)
  ·simp; exact hid
  ·cases a <;> simp [PlA]
   ·exact fun e => absurd e hid
   all_goals exact fun e => absurd e hid
  ·cases a <;> simp [PlA]
   exact fun e => absurd e hid
 cases a with
 | ptr i o =>
  simp only [readAt] at hr
  split at hr
  ·rename_i cs0 h0
   injection hr with hr; injection hr with h1 h2; subst h1; subst h2
   obtain ⟨e, he, he2, ht, hf, C, hC, hs, hj⟩ := hI.objs i _ h0
   unfold RelA at ha
   obtain ⟨e', he', _, eV⟩ := ha
   rw [he] at he'; injection he' with he'; subst he'
   refine ⟨e, 0, C, ⟨by simpa using eV, hC, ht, hf, by omega, fun k c hc => by simpa [PlA] using hj k c hc⟩, ?_⟩
   intro g' w' C' cs' hg hk hμ hw hC' hs' hl hold hnew id ob hob
   by_cases hid : id = i
   ·subst hid
    obtain ⟨k1, k2, k3, k4⟩ := hk _ _ ht (OutA.obj _ _)
    simp only [writeAt] at hob
    rw [List.getElem?_set_self (List.getElem?_eq_some_iff.1 h0).1] at hob
    injection hob with hob; subst hob
    exact ⟨e, by rw [hμ]; exact he, he2, k1, fun o => k3 o (hf o), C', hC', by omega, fun j c hc => by simpa [PlA] using hnew j c hc⟩
   ·exact rest e ht g' w' cs' hg hk hμ hw id ob hid hob
  ·cases hr
 | ep i gen k j0 =>
  simp only [readAt] at hr
  split at hr
  ·rename_i g0 sz rows h0
   split at hr
   ·rename_i hg0
    split at hr
    ·rename_i r hri
     injection hr with hr; injection hr with h1 h2; subst h1; subst h2
     obtain ⟨e, he, he2, hgen, hsz, ht, hf, C, hC, hs, hl, hrl, hj⟩ := hI.objs i _ h0
     unfold RelA at ha
     obtain ⟨e', he', _, _, ad, eV, had⟩ := ha
     rw [he] at he'; injection he' with he'; subst he'
     have hgg : gen = e.gen := by rw [hgen]; simpa using hg0
     have hlt : k < rows.length := (List.getElem?_eq_some_iff.1 hri).1
     have hrs : r.length = sz := hrl r (List.mem_of_getElem? hri)
     have hfit : k * sz + sz ≤ rows.length * sz := by
      have : (k + 1) * sz ≤ rows.length * sz := Nat.mul_le_mul_right _ hlt
      rwa [Nat.add_mul, Nat.one_mul] at this
     refine ⟨e, k * sz, C, ⟨by rw [eV, had hgg, hsz], hC, ht, hf, by omega, fun q c hc => hj k r q c hri hc⟩, ?_⟩
     intro g' w' C' cs' hg hk hμ hw hC' hs' hl' hold hnew id ob hob
     by_cases hid : id = i
     ·subst hid
      obtain ⟨k1, k2, k3, k4⟩ := hk _ _ ht (OutA.obj _ _)
      simp only [writeAt, h0] at hob
      rw [List.getElem?_set_self (List.getElem?_eq_some_iff.1 h0).1] at hob
      injection hob with hob; subst hob
      refine ⟨e, by rw [hμ]; exact he, he2, hgg.symm, hsz, k1, fun o => k3 o (hf o), C', hC', by rw [k2]; omega, by rw [List.length_set]; omega, fun r' hr' => ?_, fun i' r' j' c hi' hc => ?_⟩
      ·rcases List.mem_or_eq_of_mem_set hr' with h | h
       ·exact hrl r' h
       ·subst h; omega
      ·by_cases hki : k = i'
       ·subst hki
        rw [List.getElem?_set_self hlt] at hi'
        injection hi' with hi'; subst hi'
        simpa [PlA] using hnew j' c hc
       ·rw [List.getElem?_set_ne hki] at hi'
        obtain ⟨u, hu, o1, rr⟩ := hj i' r' j' c hi' hc
        have hjl : j' < sz := by rw [← hrl r' (List.mem_of_getElem? hi')]; exact (List.getElem?_eq_some_iff.1 hc).1
        refine ⟨u, ?_, o1, rr.mono hg _ _ _ _ (Keeps.of_place hk ⟨⟨fun _ => by simp, fun _ _ => by simp⟩, fun q => by simp [PlA]; exact fun e => absurd e.symm hki⟩)⟩
        rw [hold _ ?_]; exact hu
        rw [hrs]
        rcases Nat.lt_or_gt_of_ne hki with h | h
        ·right
         have : (k + 1) * sz ≤ i' * sz := Nat.mul_le_mul_right _ h
         rw [Nat.add_mul, Nat.one_mul] at this; omega
        ·left
         have : (i' + 1) * sz ≤ k * sz := Nat.mul_le_mul_right _ h
         rw [Nat.add_mul, Nat.one_mul] at this; omega
     ·exact rest e ht g' w' cs' hg hk hμ hw id ob hid hob
    ·cases hr
   ·cases hr
  ·cases hr
 | _ => simp [readAt] at hr
theorem Inv.store (hI : Inv GL B0 w0 g env σ tm w) {a : AV} {V : Value} {tg : Nat → Prop} (ha : RelA g tg a V) {cs : List AV} {off : Nat} (hr : readAt σ a = some (cs, off)) {vs : List AV} {Us : List Value} (hv : RelA1 g vs Us) (hl : off + vs.length ≤ cs.length) :
 ∃ b o C e, V = .pointer (some ⟨b, o, none⟩) ∧ w.heap[b]? = some (.cells C e (0, 0)) ∧ o + Us.length ≤ C.size ∧
  Inv GL B0 w0 g env (writeAt σ a (setCells cs off vs)) tm (w.setRow b (C.toList.take o ++ Us ++ C.toList.drop (o + Us.length)).toArray) ∧
  Post g w g (w.setRow b (C.toList.take o ++ Us ++ C.toList.drop (o + Us.length)).toArray) := by
 obtain ⟨e, o0, C, hA, hW⟩ := hI.write ha hr
 obtain ⟨el, hel⟩ := hA.blk
 obtain ⟨l, f⟩ := hv.get
 have hsz := hA.size
 have hfit : o0 + off + Us.length ≤ C.size := by omega
 have hC' : ((C.toList.take (o0 + off) ++ Us ++ C.toList.drop (o0 + off + Us.length)).toArray).size = C.size := by simp; omega
 have hother : ∀ b, b ≠ e.blk → (w.setRow e.blk (C.toList.take (o0 + off) ++ Us ++ C.toList.drop (o0 + off + Us.length)).toArray).heap[b]? = w.heap[b]? := fun b hb => setRow_other w e.blk b _ hb
 have hself : (w.setRow e.blk (C.toList.take (o0 + off) ++ Us ++ C.toList.drop (o0 + off + Us.length)).toArray).heap[e.blk]? = some (.cells (C.toList.take (o0 + off) ++ Us ++ C.toList.drop (o0 + off + Us.length)).toArray el (0, 0)) := setRow_heap w e.blk C _ el (0, 0) hel
 have hget : ∀ j, (C.toList.take (o0 + off) ++ Us ++ C.toList.drop (o0 + off + Us.length)).toArray[j]? = if j < o0 + off then C[j]? else if j < o0 + off + Us.length then Us[j - (o0 + off)]? else C[j]? := fun j => by
  rw [List.getElem?_toArray]; exact laid_get C (o0 + off) Us hfit j
 have hbl := hI.tlt _ _ hA.tag
 refine ⟨e.blk, o0 + off, C, el, hA.V, hel, hfit, ?_⟩
 generalize (C.toList.take (o0 + off) ++ Us ++ C.toList.drop (o0 + off + Us.length)).toArray = C' at *
 refine ⟨⟨?_, ?_, fun b o u hu => ?_, fun b pl hb => ?_, fun b pl hb h1 h2 => ?_, hI.env, ?_, by rw [writeAt_len]; exact hI.len, hI.glob, fun id e' he' => by simpa using hI.mlt id e' he'⟩, ?_⟩
 ·exact hI.below.trans ⟨rfl, rfl, rfl, by simp, fun k hk => hother k (by omega)⟩
 ·simpa using hI.base
 ·have hne : b ≠ e.blk := by intro e'; subst e'; rw [hA.Φ o] at hu; cases hu
  exact (World.cell?_of_block (w := w) (a := ⟨b, o, none⟩) (hother b hne)).trans (hI.fz b o u hu)
 ·simpa using hI.tlt b pl hb
 ·obtain ⟨D, ⟨el', hD⟩, hDs⟩ := hI.own b pl hb h1 h2
  have hne : b ≠ e.blk := by intro e'; subst e'; rw [hA.tag] at hb; injection hb with hb; exact h1 _ hb.symm
  exact ⟨D, ⟨el', (hother b hne).trans hD⟩, hDs⟩
 ·refine hW g _ C' _ (Gle.refl g) (fun b pl hb _ => ⟨hb, rfl, fun _ h => h, rfl⟩) rfl hother ⟨el, hself⟩ hC' (setCells_len cs off vs hl) (fun j hj => ?_) (fun k c hc => ?_)
  ·rw [hget]
   rcases hj with h | h
   ·rw [if_pos (by omega)]
   ·rw [if_neg (by omega), if_neg (by omega)]
  ·rw [setCells_get cs off vs hl] at hc
   rw [hget]
   by_cases h1 : k < off
   ·rw [if_pos h1] at hc; rw [if_pos (by omega)]; exact hA.cell k c hc
   ·rw [if_neg h1] at hc; rw [if_neg (by omega)]
    by_cases h2 : k < off + vs.length
    ·rw [if_pos h2] at hc; rw [if_pos (by omega)]
     obtain ⟨u, hu, o1, r⟩ := f (k - off) c hc
     exact ⟨u, by rw [show o0 + k - (o0 + off) = k - off by omega]; exact hu, o1, r.mono (Gle.refl g) _ _ _ _ Keeps.of_false⟩
    ·rw [if_neg h2] at hc; rw [if_neg (by omega)]; exact hA.cell k c hc
 ·refine ⟨by simp, Gle.refl _, fun b hb ht => ⟨hother b ?_, ht, rfl, fun _ => rfl⟩, loops_row hel⟩
  intro e'; subst e'; rw [hA.tag] at ht; cases ht
end
end Go.AM
