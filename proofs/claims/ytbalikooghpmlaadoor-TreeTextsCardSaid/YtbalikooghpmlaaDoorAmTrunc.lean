/- A part of the abstract machine and its simulation. -/
import Derived.Test.YtbalikooghpmlaaDoorAmFz
import Derived.Test.YtbalikooghpmlaaDoorAmLow
set_option linter.unusedVariables false
set_option linter.unusedSimpArgs false
namespace Go.AM
open Go Go.RowKit
def G.trunc (g : G) (n : Nat) : G := { g with μ := g.μ.take n }
theorem trunc_get {g : G} {n id : Nat} (h : id < n) : (g.trunc n).μ[id]? = g.μ[id]? := by
 show (g.μ.take n)[id]? = _
 rw [List.getElem?_take, if_pos h]
mutual
theorem RelA.trunc {g : G} {n : Nat} : ∀ (v : AV) (tg : Nat → Prop) (V : Value), ltV n v = true → RelA g tg v V → RelA (g.trunc n) tg v V
 | .undef, _, _, _, _ => by unfold RelA; trivial
 | .p v, _, _, _, h => by unfold RelA at h ⊢; exact h
 | .own sz rows, _, _, _, h => by unfold RelA at h ⊢; exact h
 | .agg cs, _, V, hl, h => by
  unfold ltV at hl; unfold RelA at h ⊢
  obtain ⟨Vs, e, k⟩ := h
  exact ⟨Vs, e, RelA1.trunc cs Vs hl k⟩
 | .tup cs, _, V, hl, h => by
  unfold ltV at hl; unfold RelA at h ⊢
  obtain ⟨Vs, e, k⟩ := h
  exact ⟨Vs, e, RelAL.trunc cs Vs hl k⟩
 | .asl ow sz rows, _, V, hl, h => by
  unfold ltV at hl; unfold RelA at h ⊢
  rcases h with h | ⟨ad, cap, e, hlen, es, k, ho⟩
  ·exact .inl h
  exact .inr ⟨ad, cap, e, hlen, es, RelAR.trunc sz rows _ _ hl k, ho⟩
 | .ap cs, _, V, hl, h => by
  unfold ltV at hl; unfold RelA at h ⊢
  obtain ⟨ad, e, es, k⟩ := h
  exact ⟨ad, e, es, RelAC.trunc cs _ _ hl k⟩
 | .ms id gn sz off len, _, V, hl, h => by
  unfold ltV at hl; simp only [decide_eq_true_eq] at hl
  unfold RelA at h ⊢
  rw [trunc_get hl]; exact h
 | .ptr id off, _, V, hl, h => by
  unfold ltV at hl; simp only [decide_eq_true_eq] at hl
  unfold RelA at h ⊢
  rw [trunc_get hl]; exact h
 | .ep id gn i j, _, V, hl, h => by
  unfold ltV at hl; simp only [decide_eq_true_eq] at hl
  unfold RelA at h ⊢
  rw [trunc_get hl]; exact h
 | .mp id, _, V, hl, h => by
  unfold ltV at hl; simp only [decide_eq_true_eq] at hl
  unfold RelA at h ⊢
  rw [trunc_get hl]; exact h
 | .fn f cap, _, V, hl, h => by
  unfold ltV at hl; unfold RelA at h ⊢
  obtain ⟨Vs, e, k⟩ := h
  exact ⟨Vs, e, RelAL.trunc cap Vs hl k⟩
 | .yld id, _, V, hl, h => by
  unfold ltV at hl; simp only [decide_eq_true_eq] at hl
  unfold RelA at h ⊢
  rw [trunc_get hl]; exact h
 | .nms id _, _, V, hl, h => by
  unfold ltV at hl; simp only [decide_eq_true_eq] at hl
  unfold RelA at h ⊢
  rw [trunc_get hl]; exact h
 | .ifc t v, _, V, hl, h => by
  unfold ltV at hl; unfold RelA at h ⊢
  obtain ⟨U, e, k⟩ := h
  exact ⟨U, e, RelA.trunc v _ U hl k⟩
theorem RelAL.trunc {g : G} {n : Nat} : ∀ (cs : List AV) (Vs : List Value), ltL n cs = true → RelAL g cs Vs → RelAL (g.trunc n) cs Vs
 | [], _, _, h => by unfold RelAL at h ⊢; exact h
 | c :: cs, Vs, hl, h => by
  unfold ltL at hl; simp only [Bool.and_eq_true] at hl
  unfold RelAL at h ⊢
  obtain ⟨u, us, e, k, ks⟩ := h
  exact ⟨u, us, e, RelA.trunc c _ u hl.1 k, RelAL.trunc cs us hl.2 ks⟩
theorem RelA1.trunc {g : G} {n : Nat} : ∀ (cs : List AV) (Vs : List Value), ltL n cs = true → RelA1 g cs Vs → RelA1 (g.trunc n) cs Vs
 | [], _, _, h => by unfold RelA1 at h ⊢; exact h
 | c :: cs, Vs, hl, h => by
  unfold ltL at hl; simp only [Bool.and_eq_true] at hl
  unfold RelA1 at h ⊢
  obtain ⟨u, us, e, o, k, ks⟩ := h
  exact ⟨u, us, e, o, RelA.trunc c _ u hl.1 k, RelA1.trunc cs us hl.2 ks⟩
theorem RelAC.trunc {g : G} {n : Nat} : ∀ (cs : List AV) (b o : Nat), ltL n cs = true → RelAC g cs b o → RelAC (g.trunc n) cs b o
 | [], _, _, _, _ => by unfold RelAC; trivial
 | c :: cs, b, o, hl, h => by
  unfold ltL at hl; simp only [Bool.and_eq_true] at hl
  unfold RelAC at h ⊢
  obtain ⟨⟨u, hu, o1, k⟩, ks⟩ := h
  exact ⟨⟨u, hu, o1, RelA.trunc c _ u hl.1 k⟩, RelAC.trunc cs _ _ hl.2 ks⟩
theorem RelAR.trunc {g : G} {n : Nat} (sz : Nat) : ∀ (rs : List (List AV)) (b o : Nat), ltR n rs = true → RelAR g sz rs b o → RelAR (g.trunc n) sz rs b o
 | [], _, _, _, _ => by unfold RelAR; trivial
 | r :: rs, b, o, hl, h => by
  unfold ltR at hl; simp only [Bool.and_eq_true] at hl
  unfold RelAR at h ⊢
  obtain ⟨l, k, ks⟩ := h
  exact ⟨l, RelAC.trunc r _ _ hl.1 k, RelAR.trunc sz rs _ _ hl.2 ks⟩
end
mutual
theorem RelA.lt {g : G} : ∀ (v : AV) (tg : Nat → Prop) (V : Value), RelA g tg v V → ltV g.μ.length v = true
 | .undef, _, _, _ => rfl
 | .p v, _, _, h => rfl
 | .own sz rows, _, _, h => rfl
 | .agg cs, _, V, h => by
  unfold RelA at h; unfold ltV
  obtain ⟨Vs, e, k⟩ := h
  exact RelA1.lt cs Vs k
 | .tup cs, _, V, h => by
  unfold RelA at h; unfold ltV
  obtain ⟨Vs, e, k⟩ := h
  exact RelAL.lt cs Vs k
 | .asl ow sz rows, _, V, h => by
  unfold RelA at h; unfold ltV
  rcases h with ⟨_, rfl⟩ | ⟨ad, cap, e, hlen, es, k, ho⟩
  ·rfl
  exact RelAR.lt sz rows _ _ k
 | .ap cs, _, V, h => by
  unfold RelA at h; unfold ltV
  obtain ⟨ad, e, es, k⟩ := h
  exact RelAC.lt cs _ _ k
 | .ms id gn sz off len, _, V, h => by
  unfold RelA at h; unfold ltV
  obtain ⟨e, he, _⟩ := h
  simpa using (List.getElem?_eq_some_iff.1 he).1
 | .ptr id off, _, V, h => by
  unfold RelA at h; unfold ltV
  obtain ⟨e, he, _⟩ := h
  simpa using (List.getElem?_eq_some_iff.1 he).1
 | .ep id gn i j, _, V, h => by
  unfold RelA at h; unfold ltV
  obtain ⟨e, he, _⟩ := h
  simpa using (List.getElem?_eq_some_iff.1 he).1
 | .mp id, _, V, h => by
  unfold RelA at h; unfold ltV
  obtain ⟨e, he, _⟩ := h
  simpa using (List.getElem?_eq_some_iff.1 he).1
 | .fn f cap, _, V, h => by
  unfold RelA at h; unfold ltV
  obtain ⟨Vs, e, k⟩ := h
  exact RelAL.lt cap Vs k
 | .yld id, _, V, h => by
  unfold RelA at h; unfold ltV
  obtain ⟨e, he, _⟩ := h
  simpa using (List.getElem?_eq_some_iff.1 he).1
 | .nms id _, _, V, h => by
  unfold RelA at h; unfold ltV
  obtain ⟨e, he, _⟩ := h
  simpa using (List.getElem?_eq_some_iff.1 he).1
 | .ifc t v, _, V, h => by
  unfold RelA at h; unfold ltV
  obtain ⟨U, e, k⟩ := h
  exact RelA.lt v _ U k
theorem RelAL.lt {g : G} : ∀ (cs : List AV) (Vs : List Value), RelAL g cs Vs → ltL g.μ.length cs = true
 | [], _, _ => rfl
 | c :: cs, Vs, h => by
  unfold RelAL at h; unfold ltL
  obtain ⟨u, us, e, k, ks⟩ := h
  simp [RelA.lt c _ u k, RelAL.lt cs us ks]
theorem RelA1.lt {g : G} : ∀ (cs : List AV) (Vs : List Value), RelA1 g cs Vs → ltL g.μ.length cs = true
 | [], _, _ => rfl
 | c :: cs, Vs, h => by
  unfold RelA1 at h; unfold ltL
  obtain ⟨u, us, e, o, k, ks⟩ := h
  simp [RelA.lt c _ u k, RelA1.lt cs us ks]
theorem RelAC.lt {g : G} : ∀ (cs : List AV) (b o : Nat), RelAC g cs b o → ltL g.μ.length cs = true
 | [], _, _, _ => rfl
 | c :: cs, b, o, h => by
  unfold RelAC at h; unfold ltL
  obtain ⟨⟨u, hu, o1, k⟩, ks⟩ := h
  simp [RelA.lt c _ u k, RelAC.lt cs _ _ ks]
theorem RelAR.lt {g : G} (sz : Nat) : ∀ (rs : List (List AV)) (b o : Nat), RelAR g sz rs b o → ltR g.μ.length rs = true
 | [], _, _, _ => rfl
 | r :: rs, b, o, h => by
  unfold RelAR at h; unfold ltR
  obtain ⟨l, k, ks⟩ := h
  simp [RelAC.lt r _ _ k, RelAR.lt sz rs _ _ ks]
end
theorem RelS.lt {g : G} {t : Nat} {v : AV} {V : Value} (h : RelS g t v V) : ltV g.μ.length v = true := by
 cases v with
 | tup cs =>
  obtain ⟨Vs, e, l, f⟩ := h
  unfold ltV
  rw [ltL_iff]
  intro c hc
  obtain ⟨i, hi, rfl⟩ := List.mem_iff_getElem.1 hc
  obtain ⟨u, _, r⟩ := f i _ (List.getElem?_eq_getElem hi)
  exact RelA.lt _ _ _ r
 | undef => rfl
 | _ => exact RelA.lt _ (fun b => g.tag b = some (.slot t)) V h
theorem RelS.trunc {g : G} {n t : Nat} {v : AV} {V : Value} (hl : ltV n v = true) (h : RelS g t v V) : RelS (g.trunc n) t v V := by
 cases v with
 | tup cs =>
  obtain ⟨Vs, e, l, f⟩ := h
  unfold ltV at hl
  rw [ltL_iff] at hl
  refine ⟨Vs, e, l, fun i c hc => ?_⟩
  obtain ⟨u, hu, r⟩ := f i c hc
  exact ⟨u, hu, RelA.trunc _ _ _ (hl c (List.mem_of_getElem? hc)) r⟩
 | undef => unfold RelS RelA; trivial
 | _ => exact RelA.trunc _ (fun b => g.tag b = some (.slot t)) V hl h
theorem get_lt {n : Nat} : ∀ {env : Env}, ltEnv n env = true → ∀ t, ltV n (get env t) = true
 | [], _, _ => rfl
 | (k, v) :: r, h, t => by
  unfold ltEnv at h
  simp only [Bool.and_eq_true] at h
  unfold get
  split
  ·exact h.1
  ·exact get_lt h.2 t
theorem RelObj.trunc {g : G} {w : World} {n id : Nat} {o : AObj} (hid : id < n) (hl : lowO n o = true) (h : RelObj g w id o) : RelObj (g.trunc n) w id o := by
 cases o with
 | cells cs =>
  obtain ⟨e, he, ha, ht, hf, C, hC, hs, hj⟩ := h
  refine ⟨e, by rw [trunc_get hid]; exact he, ha, ht, hf, C, hC, hs, fun j c hc => ?_⟩
  obtain ⟨u, hu, o1, r⟩ := hj j c hc
  exact ⟨u, hu, o1, RelA.trunc _ _ _ (ltL_iff.1 hl c (List.mem_of_getElem? hc)) r⟩
 | arr gn sz rows =>
  obtain ⟨e, he, ha, e1, e2, ht, hf, C, hC, hs, hlr, hrl, hj⟩ := h
  refine ⟨e, by rw [trunc_get hid]; exact he, ha, e1, e2, ht, hf, C, hC, hs, hlr, hrl, fun i r j c hi hc => ?_⟩
  obtain ⟨u, hu, o1, rr⟩ := hj i r j c hi hc
  exact ⟨u, hu, o1, RelA.trunc _ _ _ (ltR_iff.1 hl r (List.mem_of_getElem? hi) c (List.mem_of_getElem? hc)) rr⟩
 | map kt kvs =>
  obtain ⟨e, he, ha, ht, hf, es, ck, hw, hk⟩ := h
  exact ⟨e, by rw [trunc_get hid]; exact he, ha, ht, hf, es, ck, hw, hk⟩
 | loop st pend nt f env ps a b =>
  obtain ⟨e, he, ha, ht, hf, rec, hw, q1, q2, q4, q5, q6, q7, q8⟩ := h
  exact ⟨e, by rw [trunc_get hid]; exact he, ha, ht, hf, rec, hw, q1, q2, q4, q5, q6, q7, fun t => RelA.trunc _ _ _ (ltVis_iff.1 hl t) (q8 t)⟩
 | dead =>
  obtain ⟨e, he, ha, hz⟩ := h
  exact ⟨e, by rw [trunc_get hid]; exact he, ha, hz⟩
 | gone =>
  obtain ⟨e, he, ha, hz⟩ := h
  exact ⟨e, by rw [trunc_get hid]; exact he, ha, hz⟩
 | hid =>
  obtain ⟨e, he, ha⟩ := h
  exact ⟨e, by rw [trunc_get hid]; exact he, ha⟩
theorem RelObj.low {g : G} {w : World} {id : Nat} {o : AObj} (h : RelObj g w id o) : lowO g.μ.length o = true := by
 cases o with
 | cells cs =>
  obtain ⟨e, he, ha, ht, hf, C, hC, hs, hj⟩ := h
  show ltL _ _ = true
  rw [ltL_iff]
  intro c hc
  obtain ⟨i, hi, rfl⟩ := List.mem_iff_getElem.1 hc
  obtain ⟨u, _, _, r⟩ := hj i _ (List.getElem?_eq_getElem hi)
  exact RelA.lt _ _ _ r
 | arr gn sz rows =>
  obtain ⟨e, he, ha, e1, e2, ht, hf, C, hC, hs, hlr, hrl, hj⟩ := h
  show ltR _ _ = true
  rw [ltR_iff]
  intro r hr c hc
  obtain ⟨i, hi, rfl⟩ := List.mem_iff_getElem.1 hr
  obtain ⟨j, hj', rfl⟩ := List.mem_iff_getElem.1 hc
  obtain ⟨u, _, _, rr⟩ := hj i _ j _ (List.getElem?_eq_getElem hi) (List.getElem?_eq_getElem hj')
  exact RelA.lt _ _ _ rr
 | map _ _ => rfl
 | loop st pend nt f env ps a b =>
  obtain ⟨e, he, ha, ht, hf, rec, hw, q1, q2, q4, q5, q6, q7, q8⟩ := h
  exact ltVis_iff.2 fun t => RelA.lt _ _ _ (q8 t)
 | dead => rfl
 | gone => rfl
 | hid => rfl
section
variable {GL : List (Nat × List PV)} {B0 : Nat} {w0 : World} {g : G} {env : Env} {σ : List AObj} {tm : Array Value} {w : World}
theorem Inv.trunc' (hI : Inv GL B0 w0 g env σ tm w) {n : Nat} (hn : n ≤ σ.length) (he : ∀ t, ltV n (get env t) = true) (hL : Low n σ) : Inv GL B0 w0 (g.trunc n) env (σ.take n) tm w := by
 refine ⟨hI.below, hI.base, hI.fz, hI.tlt, hI.own, fun t => (hI.env t).trunc (he t), fun id o ho => ?_, by simp [G.trunc, hI.len], hI.glob, fun id e hid => ?_⟩
 ·rw [List.getElem?_take] at ho
  split at ho
  ·rename_i hid
   exact (hI.objs id o ho).trunc hid (hL id o hid ho)
  ·cases ho
 ·have : (g.μ.take n)[id]? = some e := hid
  rw [List.getElem?_take] at this
  split at this
  ·exact hI.mlt id e this
  ·cases this
theorem Inv.trunc (hI : Inv GL B0 w0 g env σ tm w) {n : Nat} (hn : n ≤ σ.length) (he : ltEnv n env = true) (hL : Low n σ) : Inv GL B0 w0 (g.trunc n) env (σ.take n) tm w := hI.trunc' hn (get_lt he) hL
theorem Post.trunc {g g' : G} {w w' : World} (h : Post g w g' w') {n : Nat} (hn : g.μ.length ≤ n) : Post g w (g'.trunc n) w' := by
 refine ⟨h.size, ⟨h.gle.Φ, fun id e he => ?_⟩, h.keep, h.loops⟩
 obtain ⟨e', he', r⟩ := h.gle.μ id e he
 have := (List.getElem?_eq_some_iff.1 he).1
 exact ⟨e', by rw [trunc_get (by omega)]; exact he', r⟩
theorem get_mask (env : Env) (l : List Nat) (t : Nat) : get (maskEnv env l) t = if t ∈ l then get env t else .undef := by
 induction l with
 | nil => rfl
 | cons a l ih =>
  unfold maskEnv at ih ⊢
  simp only [List.map_cons, get, beq_iff_eq, List.mem_cons]
  by_cases h : a = t
  ·subst h; simp
  ·rw [if_neg h, ih]
   simp [Ne.symm h]
theorem Inv.mask (hI : Inv GL B0 w0 g env σ tm w) (l : List Nat) : Inv GL B0 w0 g (maskEnv env l) σ tm w := by
 refine ⟨hI.below, hI.base, hI.fz, hI.tlt, hI.own, fun t => ?_, hI.objs, hI.len, hI.glob, hI.mlt⟩
 rw [get_mask]
 split
 ·exact hI.env t
 ·unfold RelS RelA; trivial
theorem Inv.congr {env' : Env} (hI : Inv GL B0 w0 g env σ tm w) (h : ∀ t, get env' t = get env t) : Inv GL B0 w0 g env' σ tm w :=
 ⟨hI.below, hI.base, hI.fz, hI.tlt, hI.own, fun t => by rw [h]; exact hI.env t, hI.objs, hI.len, hI.glob, hI.mlt⟩
theorem Inv.low (hI : Inv GL B0 w0 g env σ tm w) : Low σ.length σ := by
 intro id o hid ho
 have h := (hI.objs id o ho).low
 rwa [hI.len] at h
end
end Go.AM
