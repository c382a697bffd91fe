/- A part of the abstract machine and its simulation. -/
import Derived.Test.YtbalikooghpmlaaDoorAmAlloc
set_option linter.unusedVariables false
set_option linter.unusedSimpArgs false
namespace Go.AM
open Go Go.RowKit
def sw (p1 p2 : Pl) : Pl → Pl := fun p => if p = p1 then p2 else p
theorem sw_self (p1 p2 : Pl) : sw p1 p2 p1 = p2 := by simp [sw]
theorem sw_ne {p1 p2 p : Pl} (h : p ≠ p1) : sw p1 p2 p = p := by simp [sw, h]
def owns : AV → Bool
 | .own _ _ => true
 | .asl true _ _ => true
 | _ => false
section
variable {GL : List (Nat × List PV)} {B0 : Nat} {w0 : World} {g : G} {env : Env} {σ : List AObj} {tm : Array Value} {w : World}
theorem RelA.free {tg tg' : Nat → Prop} {v : AV} {V : Value} (h : RelA g tg v V) (hv : owns v = false) : RelA g tg' v V := by
 cases v with
 | own sz rows => cases hv
 | asl ow sz rows =>
  cases ow with
  | true => cases hv
  | false =>
   unfold RelA at h ⊢
   rcases h with h | ⟨ad, cap, e, hl, es, k, _⟩
   ·exact .inl h
   ·exact .inr ⟨ad, cap, e, hl, es, k, fun h => by cases h⟩
 | _ => unfold RelA at h ⊢; exact h
theorem RelA.swap {p1 p2 : Pl} {v : AV} {V : Value} (h : RelA g (fun b => g.tag b = some p1) v V) : RelA (g.retag (sw p1 p2)) (fun b => (g.retag (sw p1 p2)).tag b = some p2) v V :=
 h.mono (Gle.retag g _) _ _ _ _ (fun b hb => ⟨by simp [G.retag, hb, sw_self], rfl, fun _ h => h⟩)
theorem one_owns {tg : Nat → Prop} {v : AV} {V : Value} (h : RelA g tg v V) (hv : owns v = true) : one V = true := by
 cases v with
 | own sz rows => unfold RelA at h; rcases h with ⟨rfl, _⟩ | ⟨ad, cap, rfl, _⟩ <;> rfl
 | asl ow sz rows => unfold RelA at h; rcases h with ⟨rfl, _⟩ | ⟨ad, cap, rfl, _⟩ <;> rfl
 | _ => cases hv
theorem cells_one {V : Value} (h : one V = true) : V.cells = #[V] := by cases V <;> first | rfl | cases h
theorem cellsOf_rel {v : AV} {V : Value} (h : RelA g (fun _ => False) v V) (hs : storable v = true) : RelA1 g (cellsOf v) V.cells.toList := by
 have single : one V = true → cellsOf v = [v] → RelA1 g (cellsOf v) V.cells.toList := by
  intro h1 h2
  rw [h2, cells_one h1]
  exact RelA1.mk rfl fun i c hc => by
   cases i with
   | zero => simp at hc; subst hc; exact ⟨V, by simp, h1, h⟩
   | succ i => simp at hc
 cases v with
 | undef => cases hs
 | tup cs => cases hs
 | p v =>
  have hp : RelP g.Φ v V := by unfold RelA at h; exact h
  cases v with
  | tup cs => cases hs
  | agg cs =>
   unfold RelP at hp
   obtain ⟨Vs, rfl, k⟩ := hp
   obtain ⟨l, f⟩ := k.get
   refine RelA1.mk (by simpa [cellsOf, Value.cells] using l) fun i c hc => ?_
   simp only [cellsOf, List.getElem?_map] at hc
   obtain ⟨c', hc', rfl⟩ := Option.map_eq_some_iff.1 hc
   obtain ⟨u, hu, o1, r⟩ := f i c' hc'
   exact ⟨u, by simpa [Value.cells] using hu, o1, RelA.of_p r⟩
  | lit u => unfold RelP at hp; obtain ⟨rfl, hl⟩ := hp; exact single (litOk_one hl) rfl
  | sl nl sz rows => unfold RelP at hp; obtain ⟨a, cap, rfl, _⟩ := hp; exact single rfl rfl
  | pp cells => unfold RelP at hp; obtain ⟨ad, rfl, _⟩ := hp; exact single rfl rfl
  | fn f => unfold RelP at hp; subst hp; exact single rfl rfl
  | ifc t u => unfold RelP at hp; obtain ⟨U, rfl, _⟩ := hp; exact single rfl rfl
 | agg cs =>
  unfold RelA at h
  obtain ⟨Vs, rfl, k⟩ := h
  simpa [cellsOf, Value.cells] using k
 | own sz rows => unfold RelA at h; rcases h with ⟨rfl, _⟩ | ⟨ad, cap, rfl, _⟩ <;> exact single rfl rfl
 | asl ow sz rows => unfold RelA at h; rcases h with ⟨rfl, _⟩ | ⟨ad, cap, rfl, _⟩ <;> exact single rfl rfl
 | ap cells => unfold RelA at h; obtain ⟨ad, rfl, _⟩ := h; exact single rfl rfl
 | ms id gen sz off len => unfold RelA at h; obtain ⟨e, _, _, _, _, ad, cap, rfl, _⟩ := h; exact single rfl rfl
 | ptr id off => unfold RelA at h; obtain ⟨e, _, _, rfl⟩ := h; exact single rfl rfl
 | ep id gen i j => unfold RelA at h; obtain ⟨e, _, _, _, ad, rfl, _⟩ := h; exact single rfl rfl
 | mp id => unfold RelA at h; obtain ⟨e, _, _, rfl⟩ := h; exact single rfl rfl
 | fn f cap => unfold RelA at h; obtain ⟨caps, rfl, _⟩ := h; exact single rfl rfl
 | yld id => unfold RelA at h; obtain ⟨e, _, _, rfl⟩ := h; exact single rfl rfl
 | nms id k => unfold RelA at h; obtain ⟨e, _, _, rfl⟩ := h; exact single rfl rfl
 | ifc t u => unfold RelA at h; obtain ⟨U, rfl, _⟩ := h; exact single rfl rfl
theorem Inv.stripped (hI : Inv GL B0 w0 g env σ tm w) (x : Operand) : Inv GL B0 w0 g (strip env x) σ tm w := by
 cases x with
 | tmp t =>
  refine ⟨hI.below, hI.base, hI.fz, hI.tlt, hI.own, fun t' => ?_, hI.objs, hI.len, hI.glob, hI.mlt⟩
  rw [get_strip]
  split
  ·rename_i e; subst e
   have hx := hI.env t'
   split
   ·rename_i v hv; rw [hv] at hx; exact hx
   ·unfold RelS RelA; trivial
   ·exact RelS.of_A (RelX.copy (x := .tmp t') hx)
  ·exact hI.env t'
 | _ => exact hI
theorem owns_copyA (v : AV) : owns (copyA v) = false := by
 cases v with
 | agg cs => show owns (mkAgg (copyL cs)) = false; unfold mkAgg; cases allPure (copyL cs) <;> rfl
 | tup cs => show owns (mkTup (copyL cs)) = false; unfold mkTup; cases allPure (copyL cs) <;> rfl
 | _ => rfl
theorem Inv.strippedM (hI : Inv GL B0 w0 g env σ tm w) (h : FH) (x : Operand) : Inv GL B0 w0 g (stripM h env x) σ tm w := by
 unfold stripM
 split
 ·exact hI
 ·exact hI.stripped x
theorem Inv.rdM {ty : List TI} (hI : Inv GL B0 w0 g env σ tm w) (h : FH) (x : Operand) : RelX g x (mvV ⟨ty, GL⟩ h env x) (evT tm x) := by
 unfold mvV
 split
 ·have := hI.rdc (ty := ty) x
  cases x with
  | tmp t => exact RelS.of_A this
  | _ => exact this
 ·exact hI.rd x
theorem mv_owns {ty : List TI} {h : FH} {x : Operand} (ho : owns (mvV ⟨ty, GL⟩ h env x) = true) : mvV ⟨ty, GL⟩ h env x = rd ⟨ty, GL⟩ env x ∧ stripM h env x = strip env x := by
 unfold mvV stripM at *
 split at ho
 ·unfold rdc at ho
  rw [owns_copyA] at ho; cases ho
 ·rename_i hs
  rw [if_neg hs, if_neg hs]; exact ⟨rfl, rfl⟩
theorem writeAt_twice (σ : List AObj) (a : AV) (r r' : List AV) {cs : List AV} {off : Nat} (h : readAt σ a = some (cs, off)) : writeAt (writeAt σ a r) a r' = writeAt σ a r' := by
 cases a with
 | ptr id o => simp [writeAt]
 | ep id gen i j =>
  simp only [readAt] at h
  split at h
  ·rename_i g' sz rows h0
   have hlt := (List.getElem?_eq_some_iff.1 h0).1
   simp [writeAt, h0, List.getElem?_set_self hlt]
  ·cases h
 | _ => rfl
theorem readAt_write {σ : List AObj} {a : AV} {cs : List AV} {off : Nat} (h : readAt σ a = some (cs, off)) (r : List AV) : readAt (writeAt σ a r) a = some (r, off) := by
 cases a with
 | ptr id o =>
  simp only [readAt] at h
  split at h
  ·rename_i cs0 h0
   injection h with h; injection h with _ h; subst h
   simp [writeAt, readAt, List.getElem?_set_self (List.getElem?_eq_some_iff.1 h0).1]
  ·cases h
 | ep id gen i j =>
  simp only [readAt] at h
  split at h
  ·rename_i g' sz rows h0
   split at h
   ·rename_i hg
    split at h
    ·rename_i r0 hr0
     injection h with h; injection h with _ h; subst h
     simp [writeAt, readAt, h0, List.getElem?_set_self (List.getElem?_eq_some_iff.1 h0).1, List.getElem?_set_self (List.getElem?_eq_some_iff.1 hr0).1]
    ·cases h
   ·cases h
  ·cases h
 | _ => simp [readAt] at h
theorem Inv.hand (hI : Inv GL B0 w0 g env σ tm w) {a : AV} {V : Value} {tg : Nat → Prop} (ha : RelA g tg a V) {cs : List AV} {off : Nat} (hr : readAt σ a = some (cs, off)) {x : Nat} {v : AV} (hx : get env x = v) (hv : owns v = true)
 (hc : ∃ b o, V = .pointer (some ⟨b, o, none⟩) ∧ w.cell? ⟨b, o, none⟩ = some (tm.getD x Go.undef)) (hl : off < cs.length) :
 ∃ g', Inv GL B0 w0 g' (strip env (.tmp x)) (writeAt σ a (cs.set off v)) tm w ∧ Post g w g' w ∧ g'.μ = g.μ := by
 obtain ⟨e, o0, C, hA, hW⟩ := hI.write ha hr
 have hf : ∀ p : Pl, p ≠ .slot x → sw (.slot x) (PlA a off) p = p := fun p hp => sw_ne hp
 have hg := Gle.retag g (sw (.slot x) (PlA a off))
 have hk := KeepPl.retag g w (sw (.slot x) (PlA a off))
 have hkO : KeepPl g (g.retag (sw (.slot x) (PlA a off))) w w (OutA a) := fun b pl hb hO => hk b pl hb (hf pl (hO.1.1 x))
 have hxr : RelA g (fun b => g.tag b = some (.slot x)) v (tm.getD x Go.undef) := by
  have := hI.env x
  rw [hx] at this
  cases v with
  | tup cs => cases hv
  | _ => exact this
 obtain ⟨b, o, eV, hcell⟩ := hc
 have hV := hA.V
 rw [eV] at hV; injection hV with hV; injection hV with hV; injection hV with h1 h2
 subst h1; subst h2
 rw [hA.blk.cell] at hcell
 refine ⟨g.retag (sw (.slot x) (PlA a off)), ⟨hI.below, hI.base, hI.fz, fun b pl hb => ?_, fun b pl hb h1 h2 => ?_, fun t => ?_, ?_, by rw [writeAt_len]; exact hI.len, hI.glob, hI.mlt⟩, Post.retag g w _, rfl⟩
 ·simp only [G.retag, Option.map_eq_some_iff] at hb
  obtain ⟨p, hp, _⟩ := hb
  exact hI.tlt b p hp
 ·simp only [G.retag, Option.map_eq_some_iff] at hb
  obtain ⟨p, hp, rfl⟩ := hb
  by_cases hpx : p = .slot x
  ·subst hpx; exact hI.own b _ hp (fun id => by simp) (by simp)
  ·rw [hf p hpx] at h1 h2; exact hI.own b p hp h1 h2
 ·rw [get_strip]
  by_cases ex : t = x
  ·subst ex
   rw [if_pos rfl, hx]
   have hcp := (copyV_rel hxr).mono hg _ _ _ _ (Keeps.none)
   cases v with
   | own sz rows => exact RelS.of_A hcp
   | asl ow sz rows => exact RelS.of_A hcp
   | _ => cases hv
  ·rw [if_neg ex]
   exact (hI.env t).keep hg hk (hf _ (by simpa using ex)) (fun i => hf _ (by simp))
 ·refine hW _ w C _ hg hkO rfl (fun _ _ => rfl) hA.blk rfl (by simp) (fun _ _ => rfl) (fun k c hkc => ?_)
  by_cases hko : off = k
  ·subst hko
   rw [List.getElem?_set_self hl] at hkc
   injection hkc with hkc; subst hkc
   exact ⟨_, hcell, one_owns hxr hv, hxr.swap⟩
  ·rw [List.getElem?_set_ne hko] at hkc
   obtain ⟨u, hu, o1, r⟩ := hA.cell k c hkc
   refine ⟨u, hu, o1, r.mono hg _ _ _ _ (Keeps.of_place hk (hf _ ?_))⟩
   cases a <;> simp [PlA]
theorem PlA_inj {a : AV} (ha : (∃ i o, a = .ptr i o) ∨ ∃ i gn k j, a = .ep i gn k j) {k k' : Nat} (h : PlA a k = PlA a k') : k = k' := by
 rcases ha with ⟨i, o, rfl⟩ | ⟨i, gn, q, j, rfl⟩ <;> simp [PlA] at h <;> exact h
theorem readAt_ref {σ : List AObj} {a : AV} {r : List AV × Nat} (h : readAt σ a = some r) : (∃ i o, a = .ptr i o) ∨ ∃ i gn k j, a = .ep i gn k j := by
 cases a with
 | ptr i o => exact .inl ⟨i, o, rfl⟩
 | ep i gn k j => exact .inr ⟨i, gn, k, j, rfl⟩
 | _ => simp [readAt] at h
theorem Inv.take_ (hI : Inv GL B0 w0 g env σ tm w) {a : AV} {V : Value} {tg : Nat → Prop} (ha : RelA g tg a V) {cs : List AV} {off : Nat} (hr : readAt σ a = some (cs, off)) {v : AV} (hc : cs[off]? = some v) {d : Nat} (hd : d < tm.size) :
 ∃ g' u b o, V = .pointer (some ⟨b, o, none⟩) ∧ w.cell? ⟨b, o, none⟩ = some u ∧ Inv GL B0 w0 g' ((d, v) :: env) (writeAt σ a (setCells cs off [copyV v])) (putT tm (some d) u) w ∧ Post g w g' w := by
 obtain ⟨e, o0, C, hA, hW⟩ := hI.write ha hr
 have href := readAt_ref hr
 have hlt := (List.getElem?_eq_some_iff.1 hc).1
 obtain ⟨u, hu, o1, ru⟩ := hA.cell off v hc
 have hf : ∀ p : Pl, p ≠ PlA a off → sw (PlA a off) (.slot d) p = p := fun p hp => sw_ne hp
 have hns : ∀ t, (.slot t : Pl) ≠ PlA a off := fun t => by cases a <;> simp [PlA]
 have hnc : ∀ t i, (.comp t i : Pl) ≠ PlA a off := fun t i => by cases a <;> simp [PlA]
 have hg := Gle.retag g (sw (PlA a off) (.slot d))
 have hk := KeepPl.retag g w (sw (PlA a off) (.slot d))
 have hkO : KeepPl g (g.retag (sw (PlA a off) (.slot d))) w w (OutA a) := fun b pl hb hO => hk b pl hb (hf pl (hO.2 off))
 have hnt : ∀ cs, v ≠ .tup cs := fun cs e => by
  subst e
  unfold RelA at ru
  obtain ⟨Vs, rfl, _⟩ := ru
  cases o1
 refine ⟨g.retag (sw (PlA a off) (.slot d)), u, e.blk, o0 + off, hA.V, by rw [hA.blk.cell]; exact hu, ⟨hI.below, hI.base, hI.fz, fun b pl hb => ?_, fun b pl hb h1 h2 => ?_, fun t => ?_, ?_, by rw [writeAt_len]; exact hI.len, hI.glob, hI.mlt⟩, Post.retag g w _⟩
 ·simp only [G.retag, Option.map_eq_some_iff] at hb
  obtain ⟨p, hp, _⟩ := hb
  exact hI.tlt b p hp
 ·simp only [G.retag, Option.map_eq_some_iff] at hb
  obtain ⟨p, hp, rfl⟩ := hb
  by_cases hpx : p = PlA a off
  ·subst hpx; exact hI.own b _ hp (fun id => by cases a <;> simp [PlA]) (by cases a <;> simp [PlA])
  ·rw [hf p hpx] at h1 h2; exact hI.own b p hp h1 h2
 ·rw [putT_get hd]
  by_cases e : d = t
  ·subst e
   simp only [if_true, get, beq_self_eq_true]
   have hsw := ru.swap (p2 := .slot d)
   cases v with
   | tup cs => exact absurd rfl (hnt cs)
   | _ => exact hsw
  ·rw [if_neg e]
   simp only [get, beq_iff_eq, e, if_false]
   exact (hI.env t).keep hg hk (hf _ (hns t)) (fun i => hf _ (hnc t i))
 ·have hl1 : off + [copyV v].length ≤ cs.length := by simp; omega
  refine hW _ w C _ hg hkO rfl (fun _ _ => rfl) hA.blk rfl (setCells_len cs off _ hl1) (fun _ _ => rfl) (fun k c hkc => ?_)
  rw [setCells_get cs off _ hl1] at hkc
  by_cases hko : k = off
  ·subst hko
   simp at hkc; subst hkc
   exact ⟨u, hu, o1, (copyV_rel ru).mono hg _ _ _ _ Keeps.of_false⟩
  ·have : cs[k]? = some c := by
    split at hkc
    ·exact hkc
    ·simp only [List.length_singleton] at hkc
     rw [if_neg (by omega)] at hkc; exact hkc
   obtain ⟨u', hu', o1', r⟩ := hA.cell k c this
   exact ⟨u', hu', o1', r.mono hg _ _ _ _ (Keeps.of_place hk (hf _ (fun h => hko (PlA_inj href h))))⟩
end
end Go.AM
