/- A part of the abstract machine and its simulation. -/
import Derived.Test.YtbalikooghpmlaaDoorAmFrame
set_option linter.unusedVariables false
set_option linter.unusedSimpArgs false
namespace Go.AM
open Go Go.RowKit
def goes (N : Nat) (pu : Bool) : Pl → Option Pl
 | .slot t => if N ≤ t then some (.slot (t - N)) else none
 | .comp t i => if N ≤ t then some (.comp (t - N) i) else none
 | .mark => none
 | .obj id => if pu = true then none else some (.obj id)
 | .cell id j => if pu = true then none else some (.cell id j)
 | .elem id i j => if pu = true then none else some (.elem id i j)
def comes (d : Nat) (pu : Bool) : Pl → Option Pl
 | .slot t => if t = 0 then some (.slot d) else none
 | .comp t i => if t = 0 then some (.comp d i) else none
 | .mark => none
 | .obj id => if pu = true then none else some (.obj id)
 | .cell id j => if pu = true then none else some (.cell id j)
 | .elem id i j => if pu = true then none else some (.elem id i j)
def G.callee (g : G) (N : Nat) (pu : Bool) : G := ⟨g.Φ, g.bs, if pu = true then [] else g.μ, fun b => (g.tag b).bind (goes N pu)⟩
def kept (g : G) (N : Nat) (pu : Bool) (b : Nat) : Bool :=
 match g.tag b with
 | some p => (goes N pu p).isNone
 | none => false
def G.back (g g2 : G) (N d : Nat) (pu : Bool) : G := ⟨g2.Φ, g2.bs, if pu = true then g.μ else g2.μ, fun b => if kept g N pu b = true then g.tag b else (g2.tag b).bind (comes d pu)⟩
theorem RelS.to {g g' : G} {t t' : Nat} {v : AV} {V : Value} (hg : Gle g g') (h1 : Keeps g g' (fun b => g.tag b = some (.slot t)) (fun b => g'.tag b = some (.slot t'))) (h2 : ∀ i, Keeps g g' (fun b => g.tag b = some (.comp t i)) (fun b => g'.tag b = some (.comp t' i))) (h : RelS g t v V) : RelS g' t' v V := by
 cases v with
 | tup cs =>
  obtain ⟨Vs, e, l, f⟩ := h
  refine ⟨Vs, e, l, fun i c hc => ?_⟩
  obtain ⟨u, hu, r⟩ := f i c hc
  exact ⟨u, hu, r.mono hg _ _ _ _ (h2 i)⟩
 | undef => unfold RelS RelA; trivial
 | _ => exact RelA.mono hg _ _ _ V h1 h
section
variable {GL : List (Nat × List PV)} {B0 : Nat} {w0 : World} {g : G} {env : Env} {σ : List AObj} {tm : Array Value} {w : World} {ty : List TI} {h : FH}
theorem append_get_lt {tm Args : Array Value} {t : Nat} (h : t < tm.size) : (tm ++ Args).getD t Go.undef = tm.getD t Go.undef := by
 simp only [Array.getD_eq_getD_getElem?]
 rw [Array.getElem?_append_left h]
theorem append_get_ge {tm Args : Array Value} (t : Nat) : (tm ++ Args).getD (tm.size + t) Go.undef = Args.getD t Go.undef := by
 simp only [Array.getD_eq_getD_getElem?]
 rw [Array.getElem?_append_right (by omega), Nat.add_sub_cancel_left]
theorem Inv.split (pu : Bool) {Args : Array Value} {args : List AV} (hI : Inv GL B0 w0 g env σ (tm ++ Args) w) (hl : args.length = Args.size) (ha : ∀ i, i < args.length → get env (tm.size + i) = (args[i]?).getD .undef)
 (hpu : pu = true → ∀ v ∈ args, ltV 0 v = true) : Inv GL B0 w0 (g.callee tm.size pu) (envOf 0 args) (if pu = true then [] else σ) Args w := by
 have hGc : Gle g (g.callee tm.size false) := ⟨MemLe.refl _, fun id e he => ⟨e, he, rfl, Nat.le_refl _, fun _ => ⟨rfl, rfl, fun _ => rfl⟩, fun _ => rfl⟩⟩
 have htag : ∀ b pl, (g.callee tm.size pu).tag b = some pl → ∃ p, g.tag b = some p ∧ goes tm.size pu p = some pl := fun b pl hb => Option.bind_eq_some_iff.1 hb
 refine ⟨hI.below, hI.base, hI.fz, fun b pl hb => ?_, fun b pl hb h1 h2 => ?_, fun t => ?_, fun id o ho => ?_, ?_, hI.glob, fun id e he => ?_⟩
 ·obtain ⟨p, hp, _⟩ := htag b pl hb
  exact hI.tlt b p hp
 ·obtain ⟨p, hp, hg⟩ := htag b pl hb
  refine hI.own b p hp (fun id e => ?_) (fun e => ?_)
  ·subst e
   simp only [goes] at hg
   split at hg
   ·cases hg
   ·injection hg with hg; exact h1 id hg.symm
  ·subst e; cases hg
 ·rw [get_envOf, if_pos (Nat.zero_le _), Nat.sub_zero]
  by_cases ht : t < args.length
  ·have hr := hI.env (tm.size + t)
   rw [ha t ht, append_get_ge] at hr
   have k1 : ∀ b, g.tag b = some (.slot (tm.size + t)) → (g.callee tm.size pu).tag b = some (.slot t) := fun b hb => by
    show (g.tag b).bind _ = _
    rw [hb]; simp [goes]
   have k2 : ∀ i b, g.tag b = some (.comp (tm.size + t) i) → (g.callee tm.size pu).tag b = some (.comp t i) := fun i b hb => by
    show (g.tag b).bind _ = _
    rw [hb]; simp [goes]
   cases hp : pu with
   | false =>
    subst hp
    exact hr.to hGc (fun b hb => ⟨k1 b hb, rfl, fun _ h => h⟩) (fun i b hb => ⟨k2 i b hb, rfl, fun _ h => h⟩)
   | true =>
    subst hp
    have hv : ltV 0 ((args[t]?).getD .undef) = true := by
     rw [List.getElem?_eq_getElem ht]
     exact hpu rfl _ (List.getElem_mem ht)
    have hr' := hr.trunc (n := 0) hv
    exact hr'.to (g := g.trunc 0) ⟨MemLe.refl _, fun id e he => by simp [G.trunc] at he⟩ (fun b hb => ⟨k1 b hb, rfl, fun _ h => h⟩) (fun i b hb => ⟨k2 i b hb, rfl, fun _ h => h⟩)
  ·rw [List.getElem?_eq_none (by omega)]
   unfold RelS; simp only [Option.getD_none]; unfold RelA; trivial
 ·cases hp : pu with
  | true => rw [hp] at ho; simp at ho
  | false =>
   rw [hp] at ho
   simp only [Bool.false_eq_true, if_false] at ho
   have hk : KeepPl g (g.callee tm.size false) w w (fun p => goes tm.size false p = some p) := fun b pl hb hA => ⟨by show (g.tag b).bind _ = _; rw [hb]; exact hA, rfl, fun _ h => h, rfl⟩
   exact (hI.objs id o ho).keep hGc hk rfl (fun _ => rfl) (fun _ _ => rfl) (fun e he _ => he)
 ·cases hp : pu with
  | true => rfl
  | false => exact hI.len
 ·cases hp : pu with
  | true => rw [hp] at he; simp [G.callee] at he
  | false => rw [hp] at he; exact hI.mlt id e he
theorem Inv.obj_tag (hI : Inv GL B0 w0 g env σ tm w) {id : Nat} {e : ME} (he : g.μ[id]? = some e) (hz : e.arr = true ∧ 0 < e.sz) : g.tag e.blk = some (.obj id) := by
 have hlt : id < σ.length := by rw [← hI.len]; exact (List.getElem?_eq_some_iff.1 he).1
 have h := hI.objs id _ (List.getElem?_eq_getElem hlt)
 cases ho : σ[id] with
 | cells cs =>
  rw [ho] at h
  obtain ⟨e', he', _, ht, _⟩ := h
  rw [he] at he'; injection he' with he'; subst he'; exact ht
 | arr gn sz rows =>
  rw [ho] at h
  obtain ⟨e', he', _, _, _, ht, _⟩ := h
  rw [he] at he'; injection he' with he'; subst he'; exact ht
 | loop st pend nt f env ps a b =>
  rw [ho] at h
  obtain ⟨e', he', _, ht, _⟩ := h
  rw [he] at he'; injection he' with he'; subst he'; exact ht
 | dead =>
  rw [ho] at h
  obtain ⟨e', he', ha', _, hs⟩ := h
  rw [he] at he'; injection he' with he'; subst he'
  have := hz.2; omega
 | gone =>
  rw [ho] at h
  obtain ⟨e', he', ha', hs⟩ := h
  rw [he] at he'; injection he' with he'; subst he'
  have := hz.2; omega
 | hid =>
  rw [ho] at h
  obtain ⟨e', he', ha'⟩ := h
  rw [he] at he'; injection he' with he'; subst he'
  rw [ha'] at hz; cases hz.1
 | map _ _ =>
  rw [ho] at h
  obtain ⟨e', he', _, ht, _⟩ := h
  rw [he] at he'; injection he' with he'; subst he'; exact ht
theorem Inv.join (pu : Bool) {Args : Array Value} {env0 : Env} {g0 : G} {σ2 : List AObj} {g2 : G} {w2 : World} {v : AV} {V : Value} {d : Nat} (hI : Inv GL B0 w0 g env σ (tm ++ Args) w)
 (h0 : ∀ t, t < tm.size → get env0 t = get env t) (h1 : ∀ t, tm.size ≤ t → RelS g0 t (get env0 t) Go.undef) (hP : Post (g.callee tm.size pu) w g2 w2) (h2 : Inv GL B0 w0 g2 [(0, v)] σ2 #[V] w2) (hv : pu = true → ltV 0 v = true) (hd : d < tm.size) :
 ∃ g3, Inv GL B0 w0 g3 ((d, v) :: env0) (if pu = true then σ else σ2) (putT tm (some d) V) w2 ∧ Post g w g3 w2 := by
 have hkt : ∀ b p, g.tag b = some p → goes tm.size pu p = none → kept g tm.size pu b = true := fun b p hp hg => by simp [kept, hp, hg]
 have hkb : ∀ b, kept g tm.size pu b = true → ∃ p, g.tag b = some p ∧ goes tm.size pu p = none := fun b hb => by
  unfold kept at hb
  split at hb
  ·rename_i p hp; exact ⟨p, hp, by simpa using hb⟩
  ·cases hb
 have hkc : ∀ b, kept g tm.size pu b = true → b < w.heap.size ∧ w2.heap[b]? = w.heap[b]? ∧ g2.tag b = none ∧ g2.bs b = g.bs b ∧ ∀ o, g2.Φ b o = g.Φ b o := fun b hb => by
  obtain ⟨p, hp, hg⟩ := hkb b hb
  have hlt := (hI.tlt b p hp).2
  obtain ⟨a1, a2, a3, a4⟩ := hP.keep b hlt (by show (g.tag b).bind _ = none; rw [hp]; exact hg)
  exact ⟨hlt, a1, a2, a3, a4⟩
 have hg3k : ∀ b, kept g tm.size pu b = true → (g.back g2 tm.size d pu).tag b = g.tag b := fun b hb => by simp [G.back, hb]
 have hg3n : ∀ b pl, g2.tag b = some pl → (g.back g2 tm.size d pu).tag b = comes d pu pl := fun b pl hb => by
  have : ¬ kept g tm.size pu b = true := fun hk => by rw [(hkc b hk).2.2.1] at hb; cases hb
  simp [G.back, this, hb]
 have hμ : ∀ (id : Nat) e, g.μ[id]? = some e → pu = true → e.arr = true ∧ 0 < e.sz → g2.bs e.blk = g.bs e.blk := fun id e he hp hz => by
  have ht := hI.obj_tag he hz
  exact (hkc _ (hkt _ _ ht (by simp [goes, hp]))).2.2.2.1
 have hG : Gle g (g.back g2 tm.size d pu) := by
  refine ⟨hP.gle.Φ, fun id e he => ?_⟩
  cases hp : pu with
  | true =>
   subst hp
   exact ⟨e, he, rfl, Nat.le_refl _, fun _ => ⟨rfl, rfl, hμ id e he rfl⟩, fun _ => rfl⟩
  | false =>
   subst hp
   exact hP.gle.μ id e he
 have hK : KeepPl g (g.back g2 tm.size d pu) w w2 (fun p => goes tm.size pu p = none) := fun b pl hb hA => by
  have hk := hkt b pl hb hA
  obtain ⟨k1, k2, k3, k4, k5⟩ := hkc b hk
  exact ⟨by rw [hg3k b hk]; exact hb, k4, fun o ho => by show g2.Φ b o = none; rw [k5]; exact ho, k2⟩
 have hG2 : pu = false → Gle g2 (g.back g2 tm.size d pu) := fun hp => ⟨MemLe.refl _, fun id e he => ⟨e, by subst hp; exact he, rfl, Nat.le_refl _, fun _ => ⟨rfl, rfl, fun _ => rfl⟩, fun _ => rfl⟩⟩
 refine ⟨g.back g2 tm.size d pu, ⟨h2.below, h2.base, h2.fz, fun b pl hb => ?_, fun b pl hb k1 k2 => ?_, fun t => ?_, fun id o ho => ?_, ?_, h2.glob, fun id e he => ?_⟩, ⟨hP.size, hG, fun b hb ht => ?_, hP.loops⟩⟩
 ·by_cases hk : kept g tm.size pu b = true
  ·rw [hg3k b hk] at hb
   have := hI.tlt b pl hb
   have := hP.size
   omega
  ·simp only [G.back, hk] at hb
   obtain ⟨p, hp, _⟩ := Option.bind_eq_some_iff.1 hb
   exact h2.tlt b p hp
 ·by_cases hk : kept g tm.size pu b = true
  ·rw [hg3k b hk] at hb
   obtain ⟨C, ⟨el, hC⟩, hCs⟩ := hI.own b pl hb k1 k2
   obtain ⟨_, q2, _, q4, _⟩ := hkc b hk
   exact ⟨C, ⟨el, by rw [q2]; exact hC⟩, by show C.size = g2.bs b; rw [q4]; exact hCs⟩
  ·simp only [G.back, hk] at hb
   obtain ⟨p, hp, hc⟩ := Option.bind_eq_some_iff.1 hb
   refine h2.own b p hp (fun id e => ?_) (fun e => ?_)
   ·subst e
    simp only [comes] at hc
    split at hc
    ·cases hc
    ·injection hc with hc; exact k1 id hc.symm
   ·subst e; cases hc
 ·rw [putT_get hd]
  by_cases e : d = t
  ·subst e
   simp only [if_true, get, beq_self_eq_true]
   have hr := h2.env 0
   simp only [get, beq_self_eq_true, if_true] at hr
   have hr : RelS g2 0 v V := hr
   have q1 : ∀ b, g2.tag b = some (.slot 0) → (g.back g2 tm.size d pu).tag b = some (.slot d) := fun b hb => by rw [hg3n b _ hb]; simp [comes]
   have q2 : ∀ i b, g2.tag b = some (.comp 0 i) → (g.back g2 tm.size d pu).tag b = some (.comp d i) := fun i b hb => by rw [hg3n b _ hb]; simp [comes]
   cases hp : pu with
   | false =>
    have hGG := hG2 hp
    subst hp
    exact hr.to hGG (fun b hb => ⟨q1 b hb, rfl, fun _ h => h⟩) (fun i b hb => ⟨q2 i b hb, rfl, fun _ h => h⟩)
   | true =>
    subst hp
    have hr' := hr.trunc (n := 0) (hv rfl)
    exact hr'.to (g := g2.trunc 0) ⟨MemLe.refl _, fun id e he => by simp [G.trunc] at he⟩ (fun b hb => ⟨q1 b hb, rfl, fun _ h => h⟩) (fun i b hb => ⟨q2 i b hb, rfl, fun _ h => h⟩)
  ·rw [if_neg e]
   simp only [get, beq_iff_eq, e, if_false]
   by_cases ht : t < tm.size
   ·have hr := hI.env t
    rw [append_get_lt ht, ← h0 t ht] at hr
    exact hr.keep hG hK (by simp [goes]; omega) (fun i => by simp [goes]; omega)
   ·have : tm.getD t Go.undef = Go.undef := by
     rw [Array.getD_eq_getD_getElem?, Array.getElem?_eq_none (by omega)]; rfl
    rw [this]
    exact (h1 t (by omega)).undef_any
 ·cases hp : pu with
  | true =>
   subst hp
   exact (hI.objs id o ho).keep hG hK (by simp [goes]) (fun _ => by simp [goes]) (fun _ _ => by simp [goes]) (fun e he _ => he)
  | false =>
   have hGG := hG2 hp
   subst hp
   have hk2 : KeepPl g2 (g.back g2 tm.size d false) w2 w2 (fun p => comes d false p = some p) := fun b pl hb hA => ⟨by rw [hg3n b pl hb]; exact hA, rfl, fun _ h => h, rfl⟩
   exact (h2.objs id o ho).keep hGG hk2 rfl (fun _ => rfl) (fun _ _ => rfl) (fun e he _ => he)
 ·cases hp : pu with
  | true => exact hI.len
  | false => exact h2.len
 ·cases hp : pu with
  | true =>
   rw [hp] at he
   have := hI.mlt id e he
   have := hP.size
   omega
  | false => rw [hp] at he; exact h2.mlt id e he
 ·obtain ⟨a1, a2, a3, a4⟩ := hP.keep b hb (by show (g.tag b).bind _ = none; rw [ht]; rfl)
  have : ¬ kept g tm.size pu b = true := by simp [kept, ht]
  exact ⟨a1, by simp [G.back, this, a2], a3, a4⟩
end
end Go.AM
