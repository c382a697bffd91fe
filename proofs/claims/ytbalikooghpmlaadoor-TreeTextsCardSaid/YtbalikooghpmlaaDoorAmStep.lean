/- A part of the abstract machine and its simulation. -/
import Derived.Test.YtbalikooghpmlaaDoorAmTy
set_option linter.unusedVariables false
set_option linter.unusedSimpArgs false
namespace Go.AM
open Go Go.RowKit
def evT (tm : Array Value) : Operand → Value
 | .tmp t => tm.getD t undef
 | .const v => v
 | .global g => .pointer (some ⟨g, 0, none⟩)
 | .func f => .func (.func f) #[] #[]
def RelX (g : G) : Operand → AV → Value → Prop
 | .tmp t, v, V => RelS g t v V
 | _, v, V => RelA g (fun _ => False) v V
theorem litOk_one {v : Value} (h : litOk v = true) : one v = true := by cases v <;> first | rfl | cases h
theorem constC_rel {v : Value} {p : PV} (h : constC v = some p) (Φ : Mem) : one v = true ∧ RelP Φ p v := by
 unfold constC at h
 split at h
 ·injection h with h; subst h
  exact ⟨rfl, by unfold RelP; exact ⟨none, 0, rfl, Nat.le_refl _, fun _ => ⟨rfl, rfl⟩, (fun h => by cases h), .inl ⟨rfl, rfl⟩⟩⟩
 ·split at h
  ·rename_i hl
   injection h with h; subst h
   exact ⟨litOk_one hl, by unfold RelP; exact ⟨rfl, hl⟩⟩
  ·cases h
theorem constL_rel (Φ : Mem) : ∀ {vs : List Value} {ps : List PV}, constL vs = some ps → RelP1 Φ ps vs
 | [], ps, h => by simp [constL] at h; subst h; unfold RelP1; rfl
 | v :: vs, ps, h => by
  simp only [constL] at h
  split at h
  ·rename_i p l h1 h2
   injection h with h; subst h
   unfold RelP1
   obtain ⟨a1, a2⟩ := constC_rel h1 Φ
   exact ⟨v, vs, rfl, a1, a2, constL_rel Φ h2⟩
  ·cases h
theorem ofConst_rel (g : G) (v : Value) : RelA g (fun _ => False) (ofConst v) v := by
 unfold ofConst
 split
 ·rename_i cs
  split
  ·rename_i l h
   unfold RelA RelP
   exact ⟨cs.toList, by simp, constL_rel g.Φ h⟩
  ·unfold RelA; trivial
 ·split
  ·rename_i p h
   unfold RelA
   exact (constC_rel h g.Φ).2
  ·unfold RelA; trivial
section
variable {GL : List (Nat × List PV)} {B0 : Nat} {w0 : World} {g : G} {env : Env} {σ : List AObj} {tm : Array Value} {w : World} {ty : List TI}
theorem Inv.rd (h : Inv GL B0 w0 g env σ tm w) (x : Operand) : RelX g x (rd ⟨ty, GL⟩ env x) (evT tm x) := by
 cases x with
 | tmp t => exact h.env t
 | const v => exact ofConst_rel g v
 | func f => unfold AM.rd RelX RelA RelP; rfl
 | global k =>
  simp only [AM.rd, evT, RelX]
  cases hg : globOf GL k with
  | none => unfold RelA; trivial
  | some cs =>
   unfold RelA RelP
   exact ⟨⟨k, 0, none⟩, rfl, rfl, h.glob k cs hg⟩
theorem RelX.pure {x : Operand} {v : PV} {V : Value} (h : RelX g x (.p v) V) : RelP g.Φ v V := by
 cases x <;> (unfold RelX at h; first | (unfold RelS at h; unfold RelA at h; exact h) | (unfold RelA at h; exact h))
theorem RelX.any {x : Operand} {v : AV} {V : Value} (h : RelX g x v V) (hv : ∀ cs, v ≠ .tup cs) : RelA g (fun _ => True) v V := by
 have key : ∀ tg, RelA g tg v V → RelA g (fun _ => True) v V := fun tg h => h.mono (Gle.refl g) _ _ _ _ (fun b _ => ⟨trivial, rfl, fun _ h => h⟩)
 cases x with
 | tmp t =>
  unfold RelX at h
  cases v with
  | tup cs => exact absurd rfl (hv cs)
  | undef => unfold RelA; trivial
  | _ => exact key (fun b => g.tag b = some (.slot t)) h
 | _ => exact key (fun _ => False) h
theorem copyV_rel {tg : Nat → Prop} {v : AV} {V : Value} (h : RelA g tg v V) : RelA g (fun _ => False) (copyV v) V := by
 cases v with
 | own sz rows =>
  unfold RelA at h
  unfold copyV RelA RelP
  rcases h with ⟨rfl, rfl⟩ | ⟨ad, cap, e, hl, es, k, _⟩
  ·exact ⟨none, 0, rfl, Nat.le_refl _, (fun h => by cases h), (fun h => by cases h), .inl ⟨rfl, rfl⟩⟩
  ·exact ⟨some ad, cap, e, hl, (fun h => by cases h), (fun h => by cases h), .inr ⟨ad, rfl, es, k⟩⟩
 | asl ow sz rows =>
  unfold RelA at h
  unfold copyV RelA
  rcases h with h | ⟨ad, cap, e, hl, es, k, _⟩
  ·exact .inl h
  ·exact .inr ⟨ad, cap, e, hl, es, k, fun h => by cases h⟩
 | _ => first | (unfold copyV; unfold RelA at h ⊢; exact h)
theorem allPure_rel1 : ∀ {cs : List AV} {ps : List PV} {Vs : List Value}, allPure cs = some ps → RelA1 g cs Vs → RelP1 g.Φ ps Vs
 | [], ps, Vs, h, hr => by
  simp [allPure] at h; subst h
  unfold RelA1 at hr; unfold RelP1; exact hr
 | c :: cs, ps, Vs, h, hr => by
  cases c with
  | p v =>
   simp only [allPure] at h
   split at h
   ·rename_i l hl
    injection h with h; subst h
    unfold RelA1 at hr
    obtain ⟨u, us, e, o, k, ks⟩ := hr
    unfold RelA at k
    unfold RelP1
    exact ⟨u, us, e, o, k, allPure_rel1 hl ks⟩
   ·cases h
  | _ => simp [allPure] at h
theorem allPure_relL : ∀ {cs : List AV} {ps : List PV} {Vs : List Value}, allPure cs = some ps → RelAL g cs Vs → RelPL g.Φ ps Vs
 | [], ps, Vs, h, hr => by
  simp [allPure] at h; subst h
  unfold RelAL at hr; unfold RelPL; exact hr
 | c :: cs, ps, Vs, h, hr => by
  cases c with
  | p v =>
   simp only [allPure] at h
   split at h
   ·rename_i l hl
    injection h with h; subst h
    unfold RelAL at hr
    obtain ⟨u, us, e, k, ks⟩ := hr
    unfold RelA at k
    unfold RelPL
    exact ⟨u, us, e, k, allPure_relL hl ks⟩
   ·cases h
  | _ => simp [allPure] at h
theorem mkAgg_rel {tg : Nat → Prop} {cs : List AV} {Vs : List Value} (h : RelA1 g cs Vs) : RelA g tg (mkAgg cs) (.agg Vs.toArray) := by
 unfold mkAgg
 split
 ·rename_i ps hp
  unfold RelA RelP
  exact ⟨Vs, rfl, allPure_rel1 hp h⟩
 ·unfold RelA; exact ⟨Vs, rfl, h⟩
theorem mkTup_rel {tg : Nat → Prop} {cs : List AV} {Vs : List Value} (h : RelAL g cs Vs) : RelA g tg (mkTup cs) (.tuple Vs.toArray) := by
 unfold mkTup
 split
 ·rename_i ps hp
  unfold RelA RelP
  exact ⟨Vs, rfl, allPure_relL hp h⟩
 ·unfold RelA; exact ⟨Vs, rfl, h⟩
theorem copyL_eq : ∀ cs : List AV, copyL cs = cs.map copyV
 | [] => rfl
 | c :: cs => by rw [copyL, copyL_eq cs]; rfl
theorem copyL_rel1 {cs : List AV} {Vs : List Value} (h : RelA1 g cs Vs) : RelA1 g (copyL cs) Vs := by
 obtain ⟨l, f⟩ := h.get
 rw [copyL_eq]
 refine RelA1.mk (by simpa using l) fun i c hc => ?_
 rw [List.getElem?_map] at hc
 obtain ⟨c', hc', rfl⟩ := Option.map_eq_some_iff.1 hc
 obtain ⟨u, hu, o, r⟩ := f i c' hc'
 exact ⟨u, hu, o, copyV_rel r⟩
theorem copyL_relL {cs : List AV} {Vs : List Value} (l : cs.length = Vs.length) (f : ∀ (i : Nat) c, cs[i]? = some c → ∃ u tg, Vs[i]? = some u ∧ RelA g tg c u) : RelAL g (copyL cs) Vs := by
 rw [copyL_eq]
 refine RelAL.mk (by simpa using l) fun i c hc => ?_
 rw [List.getElem?_map] at hc
 obtain ⟨c', hc', rfl⟩ := Option.map_eq_some_iff.1 hc
 obtain ⟨u, tg, hu, r⟩ := f i c' hc'
 exact ⟨u, hu, copyV_rel r⟩
theorem copyA_rel {tg : Nat → Prop} {v : AV} {V : Value} (h : RelA g tg v V) : RelA g (fun _ => False) (copyA v) V := by
 cases v with
 | agg cs =>
  unfold RelA at h
  obtain ⟨Vs, rfl, k⟩ := h
  exact mkAgg_rel (copyL_rel1 k)
 | tup cs =>
  unfold RelA at h
  obtain ⟨Vs, rfl, k⟩ := h
  obtain ⟨l, f⟩ := k.get
  exact mkTup_rel (copyL_relL l fun i c hc => let ⟨u, hu, r⟩ := f i c hc; ⟨u, _, hu, r⟩)
 | _ => exact copyV_rel h
theorem RelX.copy {x : Operand} {v : AV} {V : Value} (h : RelX g x v V) : RelA g (fun _ => False) (copyA v) V := by
 cases x with
 | tmp t =>
  unfold RelX at h
  cases v with
  | tup cs =>
   obtain ⟨Vs, rfl, l, f⟩ := h
   exact mkTup_rel (copyL_relL l fun i c hc => let ⟨u, hu, r⟩ := f i c hc; ⟨u, _, hu, r⟩)
  | undef => unfold copyA copyV RelA; trivial
  | _ => exact copyA_rel (tg := fun b => g.tag b = some (.slot t)) h
 | _ => exact copyA_rel (tg := fun _ => False) h
theorem Inv.rdc (h : Inv GL B0 w0 g env σ tm w) (x : Operand) : RelA g (fun _ => False) (rdc ⟨ty, GL⟩ env x) (evT tm x) := (h.rd x).copy
def putT (tm : Array Value) (d : Option Nat) (V : Value) : Array Value :=
 match d with
 | some d => tm.setIfInBounds d V
 | none => tm
theorem putT_get {d t : Nat} {V : Value} (hd : d < tm.size) : (putT tm (some d) V).getD t undef = if d = t then V else tm.getD t undef := by
 simp only [putT]
 by_cases h : d = t
 ·subst h; simp [Array.getD, hd]
 ·simp [Array.getD_eq_getD_getElem?, Array.getElem?_setIfInBounds_ne h, h]
theorem Inv.value (h : Inv GL B0 w0 g env σ tm w) {d : Nat} (hd : d < tm.size) {v : AV} {V : Value} (hv : RelS g d v V) : Inv GL B0 w0 g ((d, v) :: env) σ (putT tm (some d) V) w := by
 refine ⟨h.below, h.base, h.fz, h.tlt, h.own, fun t => ?_, h.objs, h.len, h.glob, h.mlt⟩
 rw [putT_get hd]
 by_cases e : d = t
 ·subst e; simpa [get] using hv
 ·simpa [get, e] using h.env t
def rt (x d : Nat) : Pl → Pl
 | .slot t => if t = x then .slot d else .slot t
 | .comp t i => if t = x then .comp d i else .comp t i
 | p => p
def G.retag (g : G) (f : Pl → Pl) : G := { g with tag := fun b => (g.tag b).map f }
theorem Gle.retag (g : G) (f : Pl → Pl) : Gle g (g.retag f) := ⟨MemLe.refl _, fun _ e h => ⟨e, h, rfl, Nat.le_refl _, fun _ => ⟨rfl, rfl, fun _ => rfl⟩, fun _ => rfl⟩⟩
theorem KeepPl.retag (g : G) (w : World) (f : Pl → Pl) : KeepPl g (g.retag f) w w (fun p => f p = p) := fun b pl hb hA => ⟨by simp [G.retag, hb, hA], rfl, fun _ h => h, rfl⟩
theorem Post.retag (g : G) (w : World) (f : Pl → Pl) : Post g w (g.retag f) w := ⟨Nat.le_refl _, Gle.retag g f, fun b _ h => ⟨rfl, by simp [G.retag, h], rfl, fun _ => rfl⟩, fun _ r h => ⟨r, h⟩⟩
theorem RelS.retag {x d : Nat} {v : AV} {V : Value} (h : RelS g x v V) : RelS (g.retag (rt x d)) d v V := by
 cases v with
 | tup cs =>
  obtain ⟨Vs, e, l, f⟩ := h
  refine ⟨Vs, e, l, fun i c hc => ?_⟩
  obtain ⟨u, hu, r⟩ := f i c hc
  exact ⟨u, hu, r.mono (Gle.retag g _) _ _ _ _ (fun b hb => ⟨by simp [G.retag, hb, rt], rfl, fun _ h => h⟩)⟩
 | _ => exact RelA.mono (Gle.retag g _) _ (fun b => g.tag b = some (.slot x)) _ _ (fun b hb => ⟨by simp [G.retag, hb, rt], rfl, fun _ h => h⟩) h
theorem get_strip (env : Env) (x t : Nat) : get (strip env (.tmp x)) t = if t = x then (match get env x with | .p v => .p v | .undef => .undef | v => copyA v) else get env t := by
 unfold strip
 simp only
 by_cases h : t = x
 ·subst h
  rw [if_pos rfl]
  split <;> simp_all [get]
 ·rw [if_neg h]
  split <;> simp [get, Ne.symm h]
theorem RelA.of_p {g' : G} {tg : Nat → Prop} {v : PV} {V : Value} (h : RelP g'.Φ v V) : RelA g' tg (.p v) V := by unfold RelA; exact h
theorem Inv.move (h : Inv GL B0 w0 g env σ tm w) {x d : Nat} (hd : d < tm.size) :
 Inv GL B0 w0 (g.retag (rt x d)) ((d, get env x) :: strip env (.tmp x)) σ (putT tm (some d) (tm.getD x Go.undef)) w := by
 have hg := Gle.retag g (rt x d)
 have hk := KeepPl.retag g w (rt x d)
 refine ⟨h.below, h.base, h.fz, fun b pl hb => ?_, fun b pl hb h1 h2 => ?_, fun t => ?_, fun id o ho => ?_, h.len, h.glob, h.mlt⟩
 ·simp only [G.retag, Option.map_eq_some_iff] at hb
  obtain ⟨p, hp, _⟩ := hb
  exact h.tlt b p hp
 ·simp only [G.retag, Option.map_eq_some_iff] at hb
  obtain ⟨p, hp, rfl⟩ := hb
  refine h.own b p hp (fun id e => ?_) (fun e => ?_)
  ·subst e; exact h1 id rfl
  ·subst e; exact h2 rfl
 ·rw [putT_get hd]
  by_cases e : d = t
  ·subst e
   simp only [if_true, get, beq_self_eq_true]
   exact (h.env x).retag
  ·rw [if_neg e]
   simp only [get, beq_iff_eq, e, if_false]
   rw [get_strip]
   by_cases ex : t = x
   ·subst ex
    rw [if_pos rfl]
    have hx := h.env t
    split
    ·rename_i v hv; rw [hv] at hx; exact RelS.of_A (RelA.of_p (RelX.pure (x := .tmp t) hx))
    ·unfold RelS RelA; trivial
    ·have := (RelX.copy (x := .tmp t) hx)
     exact RelS.of_A (this.mono hg _ _ _ _ Keeps.none)
   ·rw [if_neg ex]
    exact (h.env t).keep hg hk (by simp [rt, ex]) (fun i => by simp [rt, ex])
 ·exact (h.objs id o ho).keep hg hk rfl (fun _ => rfl) (fun _ _ => rfl) (fun e he _ => he)
end
end Go.AM
