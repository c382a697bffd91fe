/- A part of the abstract machine and its simulation. -/
import Derived.Test.YtbalikooghpmlaaDoorAmEv
set_option linter.unusedVariables false
set_option linter.unusedSimpArgs false
namespace Go.AM
open Go Go.RowKit
theorem mapM_get {α β : Type} {f : α → Option β} : ∀ {l : List α} {r : List β}, l.mapM f = some r → r.length = l.length ∧ ∀ (i : Nat) y, r[i]? = some y → ∃ x, l[i]? = some x ∧ f x = some y
 | [], r, h => by
  simp at h; subst h
  exact ⟨rfl, fun i y hy => by simp at hy⟩
 | x :: l, r, h => by
  simp only [List.mapM_cons, Option.bind_eq_bind, Option.bind_eq_some_iff] at h
  obtain ⟨y, hy, ys, hys, hr⟩ := h
  simp only [Option.pure_def, Option.some.injEq] at hr
  subst hr
  obtain ⟨h1, h2⟩ := mapM_get hys
  refine ⟨by simp [h1], fun i z hz => ?_⟩
  cases i with
  | zero => simp at hz; subst hz; exact ⟨x, by simp, hy⟩
  | succ i => simp at hz; simpa using h2 i z hz
def limO : AObj → Nat
 | .cells cs => cs.length
 | .arr _ sz rows => rows.length * sz
 | _ => 0
open Classical in
noncomputable def frz (g : G) (w : World) (base : Nat) (σ : List AObj) : Mem := fun b o =>
 if ∃ id e ob, base ≤ id ∧ g.μ[id]? = some e ∧ σ[id]? = some ob ∧ e.blk = b ∧ o < limO ob then w.cell? ⟨b, o, none⟩ else g.Φ b o
section
variable {GL : List (Nat × List PV)} {B0 : Nat} {w0 : World} {g : G} {env : Env} {σ : List AObj} {tm : Array Value} {w : World} {base : Nat}
theorem frz_le (hI : Inv GL B0 w0 g env σ tm w) : MemLe g.Φ (frz g w base σ) := fun b o u hu => by
 unfold frz
 split
 ·exact hI.fz b o u hu
 ·exact hu
theorem frz_fz (hI : Inv GL B0 w0 g env σ tm w) (b o : Nat) (u : Value) (hu : frz g w base σ b o = some u) : w.cell? ⟨b, o, none⟩ = some u := by
 unfold frz at hu
 split at hu
 ·exact hu
 ·exact hI.fz b o u hu
theorem frz_in {id : Nat} {e : ME} {ob : AObj} (hb : base ≤ id) (he : g.μ[id]? = some e) (ho : σ[id]? = some ob) {o : Nat} (hl : o < limO ob) : frz g w base σ e.blk o = w.cell? ⟨e.blk, o, none⟩ := by
 unfold frz
 rw [if_pos ⟨id, e, ob, hb, he, ho, rfl, hl⟩]
theorem frz_out (hI : Inv GL B0 w0 g env σ tm w) {b o : Nat} (h : ∀ id, base ≤ id → g.tag b ≠ some (.obj id)) : frz g w base σ b o = g.Φ b o := by
 unfold frz
 rw [if_neg]
 rintro ⟨id, e, ob, hb, he, ho, rfl, hl⟩
 refine h id hb ?_
 have hr := hI.objs id ob ho
 cases ob with
 | cells cs => obtain ⟨e', he', _, ht, _⟩ := hr; rw [he] at he'; injection he' with he'; subst he'; exact ht
 | arr gn sz rows => obtain ⟨e', he', _, _, _, ht, _⟩ := hr; rw [he] at he'; injection he' with he'; subst he'; exact ht
 | loop st pend nt f env ps a b => obtain ⟨e', he', _, ht, _⟩ := hr; rw [he] at he'; injection he' with he'; subst he'; exact ht
 | dead => simp [limO] at hl
 | gone => simp [limO] at hl
 | hid => simp [limO] at hl
 | map _ _ => simp [limO] at hl
theorem pur_rel (hI : Inv GL B0 w0 g env σ tm w) : ∀ (k : Nat) (v : AV) (p : PV) (tg : Nat → Prop) (V : Value), pur base σ k v = some p → RelA g tg v V → RelP (frz g w base σ) p V
 | 0, _, _, _, _, h, _ => by cases h
 | k + 1, v, p, tg, V, h, hr => by
  have hle := frz_le (base := base) hI
  have ih := pur_rel hI k
  have one' : ∀ {cs : List AV} {Vs : List Value} {l : List PV}, cs.mapM (pur base σ k) = some l → RelA1 g cs Vs → RelP1 (frz g w base σ) l Vs := by
   intro cs Vs l hl hc
   obtain ⟨h1, h2⟩ := mapM_get hl
   obtain ⟨l1, l2⟩ := hc.get
   refine RelP1.mk (by omega) fun i y hy => ?_
   obtain ⟨x, hx, hxy⟩ := h2 i y hy
   obtain ⟨u, hu, o1, r⟩ := l2 i x hx
   exact ⟨u, hu, o1, ih x y _ u hxy r⟩
  have cells' : ∀ {cs : List AV} {l : List PV} {b o : Nat}, cs.mapM (pur base σ k) = some l → RelAC g cs b o → RelPC (frz g w base σ) l b o := by
   intro cs l b o hl hc
   obtain ⟨h1, h2⟩ := mapM_get hl
   refine RelPC.mk fun i y hy => ?_
   obtain ⟨x, hx, hxy⟩ := h2 i y hy
   obtain ⟨u, hu, o1, r⟩ := hc.get i x hx
   exact ⟨u, hle _ _ _ hu, o1, ih x y _ u hxy r⟩
  unfold pur at h
  split at h
  ·injection h with h; subst h
   unfold RelA at hr; exact hr.mono hle _ _
  ·injection h with h; subst h
   unfold RelA at hr
   obtain ⟨_, _, _, rfl⟩ := hr
   unfold RelP
   exact ⟨none, 0, rfl, Nat.le_refl _, (fun h => by cases h), (fun h => by cases h), .inl ⟨rfl, rfl⟩⟩
  ·injection h with h; subst h
   unfold RelA at hr
   unfold RelP
   rcases hr with ⟨rfl, rfl⟩ | ⟨ad, cap, e, hl, es, k, _⟩
   ·exact ⟨none, 0, rfl, Nat.le_refl _, (fun h => by cases h), (fun h => by cases h), .inl ⟨rfl, rfl⟩⟩
   exact ⟨some ad, cap, e, hl, (fun h => by cases h), (fun h => by cases h), .inr ⟨ad, rfl, es, k.mono hle _ _ _ _⟩⟩
  ·split at h
   ·rename_i l hl
    injection h with h; subst h
    unfold RelA at hr
    obtain ⟨Vs, e, hc⟩ := hr
    unfold RelP
    exact ⟨Vs, e, one' hl hc⟩
   ·cases h
  ·split at h
   ·rename_i l hl
    injection h with h; subst h
    unfold RelA at hr
    obtain ⟨h1, h2⟩ := mapM_get hl
    unfold RelP
    rcases hr with ⟨rfl, rfl⟩ | ⟨ad, cap, e, hlen, es, hk, _⟩
    ·exact ⟨none, 0, by rw [h1]; rfl, by rw [h1]; exact Nat.le_refl _, (fun h => by cases h), (fun h => by cases h), .inl ⟨rfl, rfl⟩⟩
    refine ⟨some ad, cap, by rw [h1]; exact e, by rw [h1]; exact hlen, (fun h => by cases h), (fun h => by cases h), .inr ⟨ad, rfl, es, RelPR.mk fun i r hi => ?_⟩⟩
    obtain ⟨x, hx, hxr⟩ := h2 i r hi
    obtain ⟨q1, q2⟩ := hk.get i x hx
    exact ⟨by rw [(mapM_get hxr).1]; exact q1, cells' hxr q2⟩
   ·cases h
  ·split at h
   ·rename_i l hl
    injection h with h; subst h
    unfold RelA at hr
    obtain ⟨ad, e, es, hk⟩ := hr
    unfold RelP
    exact ⟨ad, e, es, cells' hl hk⟩
   ·cases h
  ·split at h
   ·rename_i q hq
    injection h with h; subst h
    unfold RelA at hr
    obtain ⟨U, e, hk⟩ := hr
    unfold RelP
    exact ⟨U, e, ih _ _ _ _ hq hk⟩
   ·cases h
  ·rename_i id off
   split at h
   ·rename_i hb
    split at h
    ·rename_i cs ho
     split at h
     ·rename_i l hl
      injection h with h; subst h
      unfold RelA at hr
      obtain ⟨e, he, _, eV⟩ := hr
      obtain ⟨e', he', _, ht, hf, D, hD, hs, hj⟩ := hI.objs id _ ho
      rw [he] at he'; injection he' with he'; subst he'
      obtain ⟨h1, h2⟩ := mapM_get hl
      unfold RelP
      refine ⟨_, eV, rfl, RelPC.mk fun i y hy => ?_⟩
      rw [List.getElem?_drop] at hy
      obtain ⟨x, hx, hxy⟩ := h2 _ y hy
      obtain ⟨u, hu, o1, r⟩ := hj _ x hx
      refine ⟨u, ?_, o1, ih x y _ u hxy r⟩
      rw [frz_in hb he ho (by simp only [limO]; exact (List.getElem?_eq_some_iff.1 hx).1), hD.cell]; exact hu
     ·cases h
    ·cases h
   ·cases h
  ·rename_i id gn z off len
   split at h
   ·rename_i hb
    split at h
    ·rename_i gn' sz rows ho
     split at h
     ·rename_i hc
      simp only [Bool.and_eq_true, beq_iff_eq, decide_eq_true_eq] at hc
      obtain ⟨rfl, hfit⟩ := hc
      split at h
      ·rename_i l hl
       injection h with h; subst h
       unfold RelA at hr
       obtain ⟨e, he, _, hg, hes, ad, cap, eV, hlen, hx, hsp⟩ := hr
       obtain ⟨e', he', _, hgen, hsz, ht, hf, D, hD, hDs, hlr, hrl, hj⟩ := hI.objs id _ ho
       rw [he] at he'; injection he' with he'; subst he'
       obtain ⟨h1, h2⟩ := mapM_get hl
       have hln : l.length = len := by rw [h1]; simp; omega
       unfold RelP
       refine ⟨some ad, cap, by rw [hln]; exact eV, by rw [hln]; exact hlen, (fun h => by cases h), (fun h => by cases h), ?_⟩
       rcases Nat.eq_zero_or_pos len with hz | hp
       ·have : l = [] := List.length_eq_zero_iff.1 (by rw [hln]; exact hz)
        subst this
        exact .inr ⟨ad, rfl, fun _ => hsp, by unfold RelPR; trivial⟩
       ·obtain ⟨had, _⟩ := hx hgen.symm (by omega)
        subst had
        refine .inr ⟨_, rfl, fun _ => rfl, RelPR.mk fun i r hi => ?_⟩
        obtain ⟨x, hx', hxr⟩ := h2 i r hi
        rw [List.getElem?_take] at hx'
        split at hx'
        ·rw [List.getElem?_drop] at hx'
         have q1 := hrl x (List.mem_of_getElem? hx')
         obtain ⟨m1, m2⟩ := mapM_get hxr
         refine ⟨by rw [m1]; exact q1, RelPC.mk fun j y hy => ?_⟩
         obtain ⟨c, hcc, hcy⟩ := m2 j y hy
         obtain ⟨u, hu, o1, rr⟩ := hj _ x j c hx' hcc
         have hlt : (off + i) * sz + j < rows.length * sz := row_lt (List.getElem?_eq_some_iff.1 hx').1 (by rw [← q1]; exact (List.getElem?_eq_some_iff.1 hcc).1)
         refine ⟨u, ?_, o1, ih c y _ u hcy rr⟩
         have : off * e.sz + i * sz + j = (off + i) * sz + j := by rw [hsz, Nat.add_mul]
         show frz g w base σ e.blk (off * e.sz + i * sz + j) = some u
         rw [this, frz_in hb he ho (by simpa only [limO] using hlt), hD.cell]; exact hu
        ·cases hx'
      ·cases h
     ·cases h
    ·cases h
   ·cases h
  ·cases h
def toRes (base t0 : Nat) : Pl → Option Pl
 | .slot t => if t = t0 then some (.slot 0) else none
 | .comp t i => if t = t0 then some (.comp 0 i) else none
 | .obj id => if base ≤ id then none else some (.obj id)
 | p => some p
noncomputable def G.ret (g : G) (w : World) (base t0 : Nat) (σ : List AObj) : G := ⟨frz g w base σ, g.bs, g.μ.take base, fun b => (g.tag b).bind (toRes base t0)⟩
theorem Inv.ret (hI : Inv GL B0 w0 g env σ tm w) (hb : base ≤ σ.length) (hL : Low base σ) {t0 : Nat} {v v' : AV} {V : Value} (hv : RelS g t0 v V) (hr : retV base σ v = some v') :
 ∃ g', Inv GL B0 w0 g' [(0, v')] (σ.take base) #[V] w ∧ ∀ g0 w00, Post g0 w00 g w → g0.μ.length ≤ base → Post g0 w00 g' w := by
 have hle := frz_le (base := base) hI
 have hG : Gle (g.trunc base) (g.ret w base t0 σ) := ⟨hle, fun id e he => ⟨e, he, rfl, Nat.le_refl _, fun _ => ⟨rfl, rfl, fun _ => rfl⟩, fun _ => rfl⟩⟩
 have hout : ∀ b pl o, g.tag b = some pl → (∀ id, pl = .obj id → id < base) → g.Φ b o = none → (g.ret w base t0 σ).Φ b o = none := fun b pl o hb hp ho => by
  show frz g w base σ b o = none
  rw [frz_out hI (fun id h1 h2 => by rw [hb] at h2; injection h2 with h2; have := hp id h2; omega)]; exact ho
 have htag : ∀ b pl, g.tag b = some pl → (g.ret w base t0 σ).tag b = toRes base t0 pl := fun b pl hb => by
  show (g.tag b).bind _ = _
  rw [hb]; rfl
 have hs1 : Keeps (g.trunc base) (g.ret w base t0 σ) (fun b => g.tag b = some (.slot t0)) (fun b => (g.ret w base t0 σ).tag b = some (.slot 0)) := fun b hb => ⟨(htag b _ hb).trans (by simp [toRes]), rfl, fun o ho => hout b _ o hb (fun id e => by cases e) ho⟩
 have hs2 : ∀ i, Keeps (g.trunc base) (g.ret w base t0 σ) (fun b => g.tag b = some (.comp t0 i)) (fun b => (g.ret w base t0 σ).tag b = some (.comp 0 i)) := fun i b hb => ⟨(htag b _ hb).trans (by simp [toRes]), rfl, fun o ho => hout b _ o hb (fun id e => by cases e) ho⟩
 have one' : ∀ {c c' : AV} {u : Value} {tg tg' : Nat → Prop}, retC base σ c = some c' → Keeps (g.trunc base) (g.ret w base t0 σ) tg tg' → RelA g tg c u → RelA (g.ret w base t0 σ) tg' c' u := by
  intro c c' u tg tg' hc hk hr
  unfold retC at hc
  split at hc
  ·rename_i hlt
   injection hc with hc; subst hc
   exact (RelA.trunc _ _ _ hlt hr).mono hG _ _ _ _ hk
  ·split at hc
   ·rename_i p hp
    injection hc with hc; subst hc
    exact RelA.of_p (pur_rel hI 6 _ p _ _ hp hr)
   ·cases hc
 have hres : RelS (g.ret w base t0 σ) 0 v' V := by
  unfold retV at hr
  split at hr
  ·rename_i cs
   split at hr
   ·rename_i l hl
    injection hr with hr; subst hr
    obtain ⟨Vs, rfl, hlen, f⟩ := hv
    have key : ∀ {cs l : List AV}, retL base σ cs = some l → l.length = cs.length ∧ ∀ (i : Nat) y, l[i]? = some y → ∃ x, cs[i]? = some x ∧ retC base σ x = some y := by
     intro cs
     induction cs with
     | nil => intro l h; simp [retL] at h; subst h; exact ⟨rfl, fun i y hy => by simp at hy⟩
     | cons c cs ih =>
      intro l h
      simp only [retL] at h
      split at h
      ·rename_i a b h1 h2
       injection h with h; subst h
       obtain ⟨k1, k2⟩ := ih h2
       refine ⟨by simp [k1], fun i y hy => ?_⟩
       cases i with
       | zero => simp at hy; subst hy; exact ⟨c, by simp, h1⟩
       | succ i => simp at hy; simpa using k2 i y hy
      ·cases h
    obtain ⟨k1, k2⟩ := key hl
    have hcomp : ∀ (i : Nat) y, l[i]? = some y → ∃ u, Vs[i]? = some u ∧ RelA (g.ret w base t0 σ) (fun b => (g.ret w base t0 σ).tag b = some (.comp 0 i)) y u := fun i y hy => by
     obtain ⟨x, hx, hxy⟩ := k2 i y hy
     obtain ⟨u, hu, r⟩ := f i x hx
     exact ⟨u, hu, one' hxy (hs2 i) r⟩
    unfold mkTup
    split
    ·rename_i ps hps
     refine RelS.of_A ?_
     unfold RelA RelP
     refine ⟨Vs, rfl, RelPL.mk (by rw [allPure_len hps]; omega) fun i p hp => ?_⟩
     have hall : ∀ {l : List AV} {ps : List PV}, allPure l = some ps → l = ps.map AV.p := by
      intro l
      induction l with
      | nil => intro ps h; simp [allPure] at h; subst h; rfl
      | cons c l ih =>
       intro ps h
       cases c with
       | p v =>
        simp only [allPure] at h
        split at h
        ·rename_i l' hl'; injection h with h; subst h; rw [ih hl']; rfl
        ·cases h
       | _ => simp [allPure] at h
     obtain ⟨u, hu, r⟩ := hcomp i (.p p) (by rw [hall hps, List.getElem?_map, hp]; rfl)
     unfold RelA at r
     exact ⟨u, hu, r⟩
    ·exact ⟨Vs, rfl, by omega, hcomp⟩
   ·cases hr
  ·rename_i hnt
   have hva : RelA g (fun b => g.tag b = some (.slot t0)) v V := by
    cases v with
    | tup cs => exact absurd rfl (hnt cs)
    | undef => unfold RelA; trivial
    | _ => exact hv
   have := one' hr hs1 hva
   cases v' with
   | tup cs =>
    refine RelS.of_A ?_
    unfold RelA at this ⊢
    exact this
   | undef => unfold RelS RelA; trivial
   | _ => exact this
 refine ⟨g.ret w base t0 σ, ⟨hI.below, hI.base, fun b o u hu => frz_fz hI b o u hu, fun b pl hb => ?_, fun b pl hb h1 h2 => ?_, fun t => ?_, fun id o ho => ?_, by simp [G.ret, hI.len], fun k cs hk => (hI.glob k cs hk).mono hle _ _ _, fun id e he => ?_⟩, fun g0 w00 hP hn => ⟨hP.size, ⟨hP.gle.Φ.trans hle, fun id e he => ?_⟩, fun b hb ht => ?_, hP.loops⟩⟩
 ·obtain ⟨p, hp, _⟩ := Option.bind_eq_some_iff.1 hb
  exact hI.tlt b p hp
 ·obtain ⟨p, hp, hq⟩ := Option.bind_eq_some_iff.1 hb
  refine hI.own b p hp (fun id e => ?_) (fun e => ?_)
  ·subst e
   simp only [toRes] at hq
   split at hq
   ·cases hq
   ·injection hq with hq; exact h1 id hq.symm
  ·subst e
   simp only [toRes] at hq
   injection hq with hq; exact h2 hq.symm
 ·simp only [get, beq_iff_eq]
  split
  ·rename_i e; subst e; exact hres
  ·unfold RelS RelA; trivial
 ·rw [List.getElem?_take] at ho
  split at ho
  ·rename_i hid
   have h1 := (hI.objs id o ho).trunc hid (hL id o hid ho)
   have hk : KeepPl (g.trunc base) (g.ret w base t0 σ) w w (fun p => toRes base t0 p = some p ∧ ∀ id, p = .obj id → id < base) := fun b pl hb hA => ⟨by rw [htag b pl hb]; exact hA.1, rfl, fun o ho => hout b pl o hb hA.2 ho, rfl⟩
   exact h1.keep hG hk ⟨by simp [toRes]; omega, fun id' e => by injection e with e; omega⟩ (fun _ => ⟨rfl, fun _ e => by cases e⟩) (fun _ _ => ⟨rfl, fun _ e => by cases e⟩) (fun e he _ => he)
  ·cases ho
 ·have : (g.μ.take base)[id]? = some e := he
  rw [List.getElem?_take] at this
  split at this
  ·exact hI.mlt id e this
  ·cases this
 ·obtain ⟨e', he', r⟩ := hP.gle.μ id e he
  have := (List.getElem?_eq_some_iff.1 he).1
  refine ⟨e', ?_, r⟩
  show (g.μ.take base)[id]? = some e'
  rw [List.getElem?_take, if_pos (by omega)]; exact he'
 ·obtain ⟨a1, a2, a3, a4⟩ := hP.keep b hb ht
  refine ⟨a1, by show (g.tag b).bind _ = none; rw [a2]; rfl, a3, fun o => ?_⟩
  show frz g w base σ b o = _
  rw [frz_out hI (fun id _ h => by rw [a2] at h; cases h)]; exact a4 o
theorem retC_lt {n : Nat} {v v' : AV} (h : retC n σ v = some v') : ltV n v' = true := by
 unfold retC at h
 split at h
 ·rename_i hl; injection h with h; subst h; exact hl
 ·split at h
  ·injection h with h; subst h; rfl
  ·cases h
theorem retL_lt {n : Nat} : ∀ {l l' : List AV}, retL n σ l = some l' → ltL n l' = true
 | [], l', h => by simp [retL] at h; subst h; rfl
 | v :: l, l', h => by
  simp only [retL] at h
  split at h
  ·rename_i a b h1 h2
   injection h with h; subst h
   simp [ltL, retC_lt h1, retL_lt h2]
  ·cases h
theorem retV_lt {n : Nat} {v v' : AV} (h : retV n σ v = some v') : ltV n v' = true := by
 unfold retV at h
 split at h
 ·split at h
  ·rename_i l hl
   injection h with h; subst h
   unfold mkTup
   split
   ·rfl
   ·unfold ltV; exact retL_lt hl
  ·cases h
 ·exact retC_lt h
end
end Go.AM
