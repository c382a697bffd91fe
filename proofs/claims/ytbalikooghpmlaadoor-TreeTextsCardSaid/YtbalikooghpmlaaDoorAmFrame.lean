/- A part of the abstract machine and its simulation. -/
import Derived.Test.YtbalikooghpmlaaDoorAmTrunc
set_option linter.unusedVariables false
set_option linter.unusedSimpArgs false
namespace Go.AM
open Go Go.RowKit
theorem RelS.undef_any {g g' : G} {t t' : Nat} {v : AV} (h : RelS g t v Go.undef) : RelS g' t' v Go.undef := by
 cases v with
 | undef => unfold RelS RelA; trivial
 | p pv =>
  unfold RelS RelA at h ⊢
  cases pv with
  | lit x => unfold RelP at h; obtain ⟨rfl, hl⟩ := h; cases hl
  | agg cs => unfold RelP at h; obtain ⟨Vs, e, _⟩ := h; cases e
  | sl nl sz rows => unfold RelP at h; obtain ⟨a, cap, e, _⟩ := h; cases e
  | pp cells => unfold RelP at h; obtain ⟨ad, e, _⟩ := h; cases e
  | fn f => unfold RelP at h; cases h
  | ifc t v => unfold RelP at h; obtain ⟨U, e, _⟩ := h; cases e
  | tup cs =>
   unfold RelP at h ⊢
   obtain ⟨Vs, e, k⟩ := h
   have : Vs = [] := by
    have : Vs.toArray = #[] := by injection e with e; exact e.symm
    simpa using this
   subst this
   cases cs with
   | nil => exact ⟨[], rfl, by unfold RelPL; rfl⟩
   | cons c cs => unfold RelPL at k; obtain ⟨u, us, e', _⟩ := k; cases e'
 | own sz rows => unfold RelS RelA at h; rcases h with ⟨e, _⟩ | ⟨ad, cap, e, _⟩ <;> cases e
 | agg cs => unfold RelS RelA at h; obtain ⟨Vs, e, _⟩ := h; cases e
 | tup cs =>
  obtain ⟨Vs, e, l, f⟩ := h
  have : Vs = [] := by
   have : Vs.toArray = #[] := by injection e with e; exact e.symm
   simpa using this
  subst this
  have : cs = [] := List.length_eq_zero_iff.1 l
  subst this
  exact ⟨[], rfl, rfl, fun i c hc => by simp at hc⟩
 | asl ow sz rows => unfold RelS RelA at h; rcases h with ⟨e, _⟩ | ⟨ad, cap, e, _⟩ <;> cases e
 | ap cs => unfold RelS RelA at h; obtain ⟨ad, e, _⟩ := h; cases e
 | ms id gn sz off len => unfold RelS RelA at h; obtain ⟨e, _, _, _, _, ad, cap, e', _⟩ := h; cases e'
 | nms id k => unfold RelS RelA at h; obtain ⟨e, _, _, e'⟩ := h; cases e'
 | ptr id off => unfold RelS RelA at h; obtain ⟨e, _, _, e'⟩ := h; cases e'
 | ep id gn i j => unfold RelS RelA at h; obtain ⟨e, _, _, _, ad, e', _⟩ := h; cases e'
 | mp id => unfold RelS RelA at h; obtain ⟨e, _, _, e'⟩ := h; cases e'
 | fn f cap => unfold RelS RelA at h; obtain ⟨caps, e, _⟩ := h; cases e
 | yld id => unfold RelS RelA at h; obtain ⟨e, _, _, e'⟩ := h; cases e'
 | ifc t v => unfold RelS RelA at h; obtain ⟨U, e, _⟩ := h; cases e
section
variable {GL : List (Nat × List PV)} {B0 : Nat} {w0 : World} {g : G} {env : Env} {σ : List AObj} {tm : Array Value} {w : World} {ty : List TI} {h : FH}
theorem push_get (tm : Array Value) (V : Value) (t : Nat) : (tm.push V).getD t Go.undef = if t = tm.size then V else tm.getD t Go.undef := by
 simp only [Array.getD_eq_getD_getElem?, Array.getElem?_push]
 split <;> rfl
theorem Inv.slot (hI : Inv GL B0 w0 g env σ tm w) {v : AV} {V : Value} (hv : RelS g tm.size v V) : Inv GL B0 w0 g ((tm.size, v) :: env) σ (tm.push V) w := by
 refine ⟨hI.below, hI.base, hI.fz, hI.tlt, hI.own, fun t => ?_, hI.objs, hI.len, hI.glob, hI.mlt⟩
 rw [push_get]
 simp only [get, beq_iff_eq]
 by_cases e : tm.size = t
 ·subst e; simpa using hv
 ·rw [if_neg e, if_neg (Ne.symm e)]; exact hI.env t
theorem get_stripM {env : Env} {x : Operand} {t : Nat} (ht : x ≠ .tmp t) : get (stripM h env x) t = get env t := by
 unfold stripM
 split
 ·rfl
 ·cases x with
  | tmp t' => exact strip_get_other (fun e => ht (by rw [e]))
  | _ => rfl
theorem Inv.arg (hI : Inv GL B0 w0 g env σ tm w) {x : Operand} (hx : ∀ t : Nat, x = .tmp t → t < tm.size) :
 ∃ g', Inv GL B0 w0 g' ((tm.size, mvV ⟨ty, GL⟩ h env x) :: stripM h env x) σ (tm.push (evT tm x)) w ∧ Post g w g' w := by
 by_cases hs : shOf h x = true
 ·have : mvV ⟨ty, GL⟩ h env x = AM.rdc ⟨ty, GL⟩ env x ∧ stripM h env x = env := by unfold mvV stripM; rw [if_pos hs, if_pos hs]; exact ⟨rfl, rfl⟩
  rw [this.1, this.2]
  exact ⟨g, hI.slot (RelS.of_A (hI.rdc x)), Post.refl g w⟩
 ·have : mvV ⟨ty, GL⟩ h env x = AM.rd ⟨ty, GL⟩ env x ∧ stripM h env x = strip env x := by unfold mvV stripM; rw [if_neg hs, if_neg hs]; exact ⟨rfl, rfl⟩
  rw [this.1, this.2]
  cases x with
  | tmp t =>
   have hlt := hx t rfl
   have h1 := hI.slot (v := .undef) (V := evT tm (.tmp t)) (by unfold RelS RelA; trivial)
   have h2 := h1.move (x := t) (d := tm.size) (by simp)
   refine ⟨_, ?_, Post.retag g w (rt t tm.size)⟩
   have e1 : putT (tm.push (evT tm (.tmp t))) (some tm.size) ((tm.push (evT tm (.tmp t))).getD t Go.undef) = tm.push (evT tm (.tmp t)) := by
    rw [push_get, if_neg (by omega)]
    simp only [putT]
    apply Array.ext'
    simp [evT]
   rw [e1] at h2
   refine h2.congr (fun t' => ?_)
   have e2 : get ((tm.size, AV.undef) :: env) t = get env t := by simp [get]; intro e; omega
   show get ((tm.size, get env t) :: strip env (.tmp t)) t' = get ((tm.size, get ((tm.size, AV.undef) :: env) t) :: strip ((tm.size, AV.undef) :: env) (.tmp t)) t'
   rw [e2]
   simp only [get, beq_iff_eq]
   split
   ·rfl
   ·rename_i hne
    rw [get_strip, get_strip, e2]
    split
    ·rfl
    ·simp only [get, beq_iff_eq, hne, if_false]
  | const v => exact ⟨g, hI.slot (RelS.of_A (hI.rd (ty := ty) (.const v))), Post.refl g w⟩
  | global k => exact ⟨g, hI.slot (RelS.of_A (hI.rd (ty := ty) (.global k))), Post.refl g w⟩
  | func f => exact ⟨g, hI.slot (RelS.of_A (hI.rd (ty := ty) (.func f))), Post.refl g w⟩
theorem mvV_congr {env env' : Env} {x : Operand} (hx : ∀ t : Nat, x = .tmp t → get env' t = get env t) : mvV ⟨ty, GL⟩ h env' x = mvV ⟨ty, GL⟩ h env x := by
 have : rd ⟨ty, GL⟩ env' x = rd ⟨ty, GL⟩ env x := by
  cases x with
  | tmp t => exact hx t rfl
  | _ => rfl
 unfold mvV rdc
 rw [this]
theorem stripM_congr {env env' : Env} {x : Operand} (hx : ∀ t : Nat, x = .tmp t → get env' t = get env t) {t : Nat} (ht : get env' t = get env t) : get (stripM h env' x) t = get (stripM h env x) t := by
 by_cases hs : shOf h x = true
 ·unfold stripM; rw [if_pos hs, if_pos hs]; exact ht
 ·unfold stripM; rw [if_neg hs, if_neg hs]
  cases x with
  | tmp t' => rw [get_strip, get_strip, hx t' rfl, ht]
  | _ => exact ht
theorem Inv.args {N : Nat} {tm0 : Array Value} : ∀ (xs : List Operand) {g : G} {env env' : Env} {tm : Array Value}, (∀ x ∈ xs, ∀ t : Nat, x = .tmp t → t < N) → N ≤ tm.size → (∀ t, t < N → tm.getD t Go.undef = tm0.getD t Go.undef) → (∀ t, t < N → get env' t = get env t) →
 Inv GL B0 w0 g env' σ tm w →
 ∃ g' env'', Inv GL B0 w0 g' env'' σ (tm ++ (xs.map (evT tm0)).toArray) w ∧ Post g w g' w ∧ (∀ t, t < N → get env'' t = get (stripsM h env xs) t) ∧
  (∀ i, i < xs.length → get env'' (tm.size + i) = ((argsV ⟨ty, GL⟩ h env xs)[i]?).getD .undef) ∧ (∀ t, N ≤ t → t < tm.size → get env'' t = get env' t)
 | [], g, env, env', tm, _, _, _, he, hI => ⟨g, env', by simpa using hI, Post.refl g w, fun t ht => he t ht, fun i hi => by simp at hi, fun _ _ _ => rfl⟩
 | x :: xs, g, env, env', tm, hx, hN, htm, he, hI => by
  have hxt : ∀ t : Nat, x = .tmp t → t < N := fun t e => hx x (by simp) t e
  obtain ⟨g1, hI1, hP1⟩ := hI.arg (ty := ty) (h := h) (x := x) (fun t e => Nat.lt_of_lt_of_le (hxt t e) hN)
  have hev : evT tm x = evT tm0 x := by
   cases x with
   | tmp t => exact htm t (hxt t rfl)
   | _ => rfl
  obtain ⟨g2, env2, hI2, hP2, h1, h2, h3⟩ := Inv.args xs (N := N) (tm0 := tm0) (env := stripM h env x) (env' := (tm.size, mvV ⟨ty, GL⟩ h env' x) :: stripM h env' x) (tm := tm.push (evT tm x)) (fun y hy => hx y (by simp [hy])) (by simp; omega)
   (fun t ht => by rw [push_get, if_neg (by omega)]; exact htm t ht)
   (fun t ht => by
    simp only [get, beq_iff_eq]
    rw [if_neg (by omega)]
    exact stripM_congr (fun t' e => he t' (hxt t' e)) (he t ht)) hI1
  refine ⟨g2, env2, ?_, hP1.trans hP2, h1, fun i hi => ?_, fun t ht1 ht2 => ?_⟩
  ·have : tm.push (evT tm x) ++ (xs.map (evT tm0)).toArray = tm ++ ((x :: xs).map (evT tm0)).toArray := by
    apply Array.ext'
    simp [hev]
   rw [this] at hI2; exact hI2
  ·cases i with
   | zero =>
    rw [h3 _ (by omega) (by simp)]
    simp only [Nat.add_zero, get, beq_self_eq_true, if_true, argsV, List.getElem?_cons_zero, Option.getD_some]
    exact mvV_congr (fun t' e => he t' (hxt t' e))
   | succ i =>
    have := h2 i (by simpa using hi)
    rw [Array.size_push, show tm.size + 1 + i = tm.size + (i + 1) by omega] at this
    rw [this]
    simp [argsV]
  ·rw [h3 t ht1 (by simp; omega)]
   simp only [get, beq_iff_eq]
   rw [if_neg (by omega)]
   exact get_stripM (fun e => by have := hxt t e; omega)
theorem Inv.caps : ∀ (vs : List AV) (Vs : List Value) {env : Env} {tm : Array Value}, RelAL g vs Vs → Inv GL B0 w0 g env σ tm w →
 ∃ env', Inv GL B0 w0 g env' σ (tm ++ Vs.toArray) w ∧ (∀ t, t < tm.size → get env' t = get env t) ∧ (∀ i, i < vs.length → get env' (tm.size + i) = (vs[i]?).getD .undef)
 | [], Vs, env, tm, hr, hI => by
  unfold RelAL at hr; subst hr
  exact ⟨env, by simpa using hI, fun _ _ => rfl, fun i hi => by simp at hi⟩
 | v :: vs, Vs, env, tm, hr, hI => by
  unfold RelAL at hr
  obtain ⟨u, us, rfl, k, ks⟩ := hr
  obtain ⟨env', hI', h1, h2⟩ := Inv.caps vs us ks (hI.slot (RelS.of_A k))
  refine ⟨env', ?_, fun t ht => ?_, fun i hi => ?_⟩
  ·have : tm.push u ++ us.toArray = tm ++ (u :: us).toArray := by apply Array.ext'; simp
   rw [this] at hI'; exact hI'
  ·rw [h1 t (by simp; omega)]
   simp only [get, beq_iff_eq]
   rw [if_neg (by omega)]
  ·cases i with
   | zero =>
    rw [h1 _ (by simp)]
    simp [get]
   | succ i =>
    have := h2 i (by simpa using hi)
    rw [Array.size_push, show tm.size + 1 + i = tm.size + (i + 1) by omega] at this
    rw [this]; simp
theorem get_envOf : ∀ (vs : List AV) (k t : Nat), get (envOf k vs) t = if k ≤ t then (vs[t - k]?).getD .undef else .undef
 | [], k, t => by simp [envOf, get]
 | v :: vs, k, t => by
  simp only [envOf, get, beq_iff_eq]
  rw [get_envOf vs (k + 1) t]
  by_cases e : k = t
  ·subst e; simp
  ·rw [if_neg e]
   by_cases h1 : k ≤ t
   ·rw [if_pos (by omega), if_pos h1, show t - k = (t - (k + 1)) + 1 by omega]; simp
   ·rw [if_neg (by omega), if_neg h1]
end
end Go.AM
