/- A part of the abstract machine and its simulation. -/
import Derived.Test.YtbalikooghpmlaaDoorAmEv
set_option linter.unusedVariables false
set_option linter.unusedSimpArgs false
namespace Go.AM
open Go Go.RowKit
section
variable {GL : List (Nat × List PV)} {B0 : Nat} {w0 : World} {g : G} {env : Env} {σ : List AObj} {tm : Array Value} {w : World} {ty : List TI} {P : Program}
theorem Inv.reframe {env' : Env} {tm' : Array Value} (hI : Inv GL B0 w0 g env σ tm w) (h : ∀ t, RelS g t (get env' t) (tm'.getD t Go.undef)) : Inv GL B0 w0 g env' σ tm' w :=
 ⟨hI.below, hI.base, hI.fz, hI.tlt, hI.own, h, hI.objs, hI.len, hI.glob, hI.mlt⟩
theorem cell_none {w : World} {b o : Nat} {u : Value} (h : w.cell? ⟨b, o, none⟩ = some u) : ∃ C e f, w.heap[b]? = some (.cells C e f) := by
 unfold World.cell? at h
 cases hb : w.heap[b]? with
 | none => simp [hb] at h
 | some x =>
  simp only [hb] at h
  cases x with
  | cells C e f => exact ⟨C, e, f, rfl⟩
  | _ => simp at h
theorem Inv.touch (hI : Inv GL B0 w0 g env σ tm w) {l : Nat} {o o' : Obj} (hB : B0 ≤ l) (ho : w.heap[l]? = some o) (hc : ∀ C e f, o ≠ .cells C e f) (ht : ∀ pl, g.tag l = some pl → ∃ id, pl = .obj id ∧ σ.length ≤ id) :
 Inv GL B0 w0 g env σ tm (w.putObj l o') := by
 have hot : ∀ b, b ≠ l → (w.putObj l o').heap[b]? = w.heap[b]? := fun b hb => World.putObj_heap_other hb
 refine ⟨hI.below.trans ⟨rfl, rfl, rfl, by simp, fun k hk => hot k (by omega)⟩, by simpa using hI.base, fun b q u hu => ?_, fun b pl hb => by simpa using hI.tlt b pl hb, fun b pl hb h1 h2 => ?_, hI.env, fun id x hx => ?_, hI.len, hI.glob, fun id e he => by simpa using hI.mlt id e he⟩
 ·have hu' := hI.fz b q u hu
  have hne : b ≠ l := fun e => by
   subst e
   obtain ⟨C, e, f, hC⟩ := cell_none hu'
   rw [ho] at hC; injection hC with hC; exact hc _ _ _ hC
  exact (World.cell?_of_block (w := w) (a := ⟨b, q, none⟩) (hot b hne)).trans hu'
 ·have hne : b ≠ l := fun e => by
   subst e
   obtain ⟨id, rfl, _⟩ := ht pl hb
   exact h1 id rfl
  obtain ⟨C, ⟨el, hC⟩, hs⟩ := hI.own b pl hb h1 h2
  exact ⟨C, ⟨el, (hot b hne).trans hC⟩, hs⟩
 ·have hlt : id < σ.length := (List.getElem?_eq_some_iff.1 hx).1
  have hk : KeepPl g g w (w.putObj l o') (fun p => ∀ id, p = .obj id → id < σ.length) := fun b pl hb hA => ⟨hb, rfl, fun _ h => h, hot b fun e => by
   subst e
   obtain ⟨id, rfl, hle⟩ := ht pl hb
   have := hA id rfl
   omega⟩
  exact (hI.objs id x hx).keep (Gle.refl g) hk (fun id' e => by injection e with e; omega) (fun _ _ e => by cases e) (fun _ _ _ e => by cases e) (fun e he _ => he)
theorem Post.touch {g0 : G} {w00 : World} (hP : Post g0 w00 g w) {l : Nat} {o o' : Obj} (ho : w.heap[l]? = some o) (hl : w00.heap.size ≤ l ∨ g0.tag l ≠ none) (hlp : (∃ r, o = .loop r) → ∃ r', o' = .loop r') : Post g0 w00 g (w.putObj l o') := by
 have hlt : l < w.heap.size := (Array.getElem?_eq_some_iff.1 ho).1
 refine ⟨by simpa using hP.size, hP.gle, fun b hb ht => ?_, fun b r hr => ?_⟩
 ·have hne : b ≠ l := fun e => by
   subst e
   rcases hl with h | h
   ·omega
   ·exact h ht
  obtain ⟨h1, h2, h3, h4⟩ := hP.keep b hb ht
  exact ⟨(World.putObj_heap_other hne).trans h1, h2, h3, h4⟩
 ·obtain ⟨r1, h1⟩ := hP.loops b r hr
  by_cases e : b = l
  ·subst e
   rw [ho] at h1; injection h1 with h1
   obtain ⟨r', rfl⟩ := hlp ⟨r1, h1⟩
   exact ⟨r', World.putObj_heap_same hlt⟩
  ·exact ⟨r1, (World.putObj_heap_other e).trans h1⟩
theorem Inv.setLoop (hI : Inv GL B0 w0 g env σ tm w) {id st st' nt : Nat} {p p' : Option Code} {f : FuncId} {env0 : Env} {ps : List Nat} {a b : Code} {e : ME} {rec : Loop} (ho : σ[id]? = some (.loop st p nt f env0 ps a b)) (he : g.μ[id]? = some e) (hr : w.heap[e.blk]? = some (.loop rec)) :
 Inv GL B0 w0 g env (σ.set id (.loop st' p' nt f env0 ps a b)) tm (w.putObj e.blk (.loop { rec with state := stOf st', pending := p' })) ∧ Post g w g (w.putObj e.blk (.loop { rec with state := stOf st', pending := p' })) := by
 obtain ⟨e', he', ha, ht, hf, rec', hr', q1, q2, q4, q5, q6, q7, q8⟩ := hI.objs id _ ho
 rw [he] at he'; injection he' with he'; subst he'
 rw [hr] at hr'; injection hr' with hr'; injection hr' with hr'; subst hr'
 have hlt : e.blk < w.heap.size := (Array.getElem?_eq_some_iff.1 hr).1
 have hot : ∀ b, b ≠ e.blk → (w.putObj e.blk (.loop { rec with state := stOf st', pending := p' })).heap[b]? = w.heap[b]? := fun b hb => World.putObj_heap_other hb
 refine ⟨⟨hI.below.trans ⟨rfl, rfl, rfl, by simp, fun k hk => hot k (by have := (hI.tlt _ _ ht).1; omega)⟩, by simpa using hI.base, fun b q u hu => ?_, fun b pl hb => by simpa using hI.tlt b pl hb, fun b pl hb h1 h2 => ?_, hI.env, fun id' x hx => ?_, by simpa using hI.len, hI.glob, fun id e he => by simpa using hI.mlt id e he⟩, ?_⟩
 ·have hne : b ≠ e.blk := fun e' => by subst e'; rw [hf] at hu; cases hu
  exact (World.cell?_of_block (w := w) (a := ⟨b, q, none⟩) (hot b hne)).trans (hI.fz b q u hu)
 ·have hne : b ≠ e.blk := fun e' => by subst e'; rw [ht] at hb; injection hb with hb; exact h1 id hb.symm
  obtain ⟨C, ⟨el, hC⟩, hs⟩ := hI.own b pl hb h1 h2
  exact ⟨C, ⟨el, (hot b hne).trans hC⟩, hs⟩
 ·by_cases hid : id = id'
  ·subst hid
   rw [List.getElem?_set_self (List.getElem?_eq_some_iff.1 ho).1] at hx
   injection hx with hx; subst hx
   exact ⟨e, he, ha, ht, hf, _, World.putObj_heap_same hlt, rfl, rfl, q4, q5, q6, q7, q8⟩
  ·rw [List.getElem?_set_ne hid] at hx
   have hk : KeepPl g g w (w.putObj e.blk (.loop { rec with state := stOf st', pending := p' })) (fun pl => pl ≠ .obj id) := fun b pl hb hA => ⟨hb, rfl, fun _ h => h, hot b fun e' => by
    subst e'; rw [ht] at hb; injection hb with hb; exact hA hb.symm⟩
   exact (hI.objs id' x hx).keep (Gle.refl g) hk (by simp; exact fun e => hid e.symm) (fun _ => by simp) (fun _ _ => by simp) (fun e he _ => he)
 ·exact Post.touch (Post.refl g w) hr (.inr (by rw [ht]; simp)) (fun _ => ⟨_, rfl⟩)
theorem Inv.alloc_junk (hI : Inv GL B0 w0 g env σ tm w) (o : Obj) : Inv GL B0 w0 g env σ tm (w.alloc o) ∧ Post g w g (w.alloc o) := by
 have hold : ∀ b, b < w.heap.size → (w.alloc o).heap[b]? = w.heap[b]? := fun b hb => heap_alloc_old w o b hb
 refine ⟨⟨hI.below.trans ((Below.refl _ _).alloc hI.base _), by have := hI.base; simp; omega, fun b q u hu => ?_, fun b pl hb => ?_, fun b pl hb h1 h2 => ?_, hI.env, fun id x hx => ?_, hI.len, hI.glob, fun id e he => ?_⟩, ⟨by simp, Gle.refl g, fun b hb ht => ⟨hold b hb, ht, rfl, fun _ => rfl⟩, loops_alloc⟩⟩
 ·have hu' := hI.fz b q u hu
  exact (World.cell?_of_block (w := w) (a := ⟨b, q, none⟩) (hold b (World.block_lt_of_cell? w _ hu'))).trans hu'
 ·have := hI.tlt b pl hb; simp; omega
 ·obtain ⟨C, ⟨el, hC⟩, hs⟩ := hI.own b pl hb h1 h2
  exact ⟨C, ⟨el, (hold b (hI.tlt b pl hb).2).trans hC⟩, hs⟩
 ·have hk : KeepPl g g w (w.alloc o) (fun _ => True) := fun b pl hb _ => ⟨hb, rfl, fun _ h => h, hold b (hI.tlt b pl hb).2⟩
  exact (hI.objs id x hx).keep (Gle.refl g) hk trivial (fun _ => trivial) (fun _ _ => trivial) (fun e he _ => he)
 ·have := hI.mlt id e he; simp; omega
theorem get_copyEnv : ∀ (env : Env) (t : Nat), get (copyEnv env) t = copyA (get env t)
 | [], _ => rfl
 | (k, v) :: r, t => by
  simp only [copyEnv, get]
  split
  ·rfl
  ·exact get_copyEnv r t
theorem Inv.alloc_loop (hI : Inv GL B0 w0 g env σ tm w) {rec : Loop} {nt : Nat} (f : FuncId) (h1 : rec.state = .ready) (h2 : rec.pending = none) (h3 : rec.tmps = tm) (h4 : nt ≤ tm.size) :
 ∃ g', Inv GL B0 w0 g' env (σ ++ [.loop 0 none nt f (copyEnv env) rec.params.toList rec.assign rec.body]) tm (w.alloc (.loop rec)) ∧ Post g w g' (w.alloc (.loop rec)) ∧ (∃ e, g'.μ[σ.length]? = some e ∧ e.arr = false ∧ e.blk = w.heap.size) ∧ (∀ b, b ≠ w.heap.size → g'.tag b = g.tag b) := by
 have hΦ : ∀ b q, b < w.heap.size → g.Φ b q = g.Φ b q := fun _ _ _ => rfl
 have hμ : (g.fresh w.heap.size 0 (.obj σ.length) g.Φ (g.μ ++ [⟨0, w.heap.size, 0, false⟩])).μ[σ.length]? = some ⟨0, w.heap.size, 0, false⟩ := by
  simp only [G.fresh]; rw [← hI.len]; simp
 have hold : ∀ b, b < w.heap.size → (w.alloc (.loop rec)).heap[b]? = w.heap[b]? := fun b hb => heap_alloc_old w _ b hb
 have hG : Gle g (g.fresh w.heap.size 0 (.obj σ.length) g.Φ (g.μ ++ [⟨0, w.heap.size, 0, false⟩])) :=
  ⟨fun _ _ _ h => h, fun id e he => ⟨e, by simp only [G.fresh]; rw [List.getElem?_append_left (List.getElem?_eq_some_iff.1 he).1]; exact he, rfl, Nat.le_refl _, fun _ => ⟨rfl, rfl, by simp [G.fresh, upd, Nat.ne_of_lt (hI.mlt id e he)]⟩, fun _ => rfl⟩⟩
 have hk := hI.fresh_keep (.loop rec) (n := 0) (pl := .obj σ.length) (μ := g.μ ++ [⟨0, w.heap.size, 0, false⟩]) hΦ
 refine ⟨g.fresh w.heap.size 0 (.obj σ.length) g.Φ (g.μ ++ [⟨0, w.heap.size, 0, false⟩]), ⟨hI.below.trans ((Below.refl _ _).alloc hI.base _), by have := hI.base; simp; omega, fun b q u hu => ?_, fun b p hb => ?_, fun b p hb k1 k2 => ?_, fun t => (hI.env t).keep hG hk trivial (fun _ => trivial), fun id o ho => ?_, by simp [G.fresh, hI.len], fun k cs hk => hI.glob k cs hk, fun id e he => ?_⟩, hI.fresh_post _ hG hΦ, ⟨_, hμ, rfl, rfl⟩, fun b hb => by simp [G.fresh, upd, hb]⟩
 ·have hu' := hI.fz b q u hu
  exact (World.cell?_of_block (w := w) (a := ⟨b, q, none⟩) (hold b (World.block_lt_of_cell? w _ hu'))).trans hu'
 ·simp only [G.fresh, upd] at hb
  split at hb
  ·rename_i e; subst e; exact ⟨hI.base, by simp⟩
  ·have := hI.tlt b p hb; simp; omega
 ·simp only [G.fresh, upd] at hb ⊢
  split at hb
  ·injection hb with hb; exact absurd hb.symm (k1 _)
  ·rename_i hne
   obtain ⟨D, ⟨el, hD⟩, hs⟩ := hI.own b p hb k1 k2
   exact ⟨D, ⟨el, by rw [hold b (hI.tlt b p hb).2]; exact hD⟩, by simp [hne, hs]⟩
 ·by_cases hid : id < σ.length
  ·rw [List.getElem?_append_left hid] at ho
   refine (hI.objs id o ho).keep hG hk trivial (fun _ => trivial) (fun _ _ => trivial) (fun e he _ => ?_)
   simp only [G.fresh]; rw [List.getElem?_append_left (List.getElem?_eq_some_iff.1 he).1]; exact he
  ·have hid' : id = σ.length := by
    have := (List.getElem?_eq_some_iff.1 ho).1; simp at this; omega
   subst hid'
   simp at ho; subst ho
   refine ⟨_, hμ, rfl, by simp [G.fresh, upd], fun o => hI.Φ_lt (Nat.le_refl _), rec, heap_alloc_new w _, h1, h2, rfl, rfl, rfl, by rw [h3]; exact h4, fun t => ?_⟩
   rw [get_copyEnv, h3]
   exact (hI.rdc (ty := []) (.tmp t)).mono hG _ _ _ _ Keeps.none
 ·simp only [G.fresh] at he
  by_cases hid : id < g.μ.length
  ·rw [List.getElem?_append_left hid] at he
   have := hI.mlt id e he; simp; omega
  ·rw [List.getElem?_append_right (by omega)] at he
   have : id - g.μ.length = 0 := by
    have := (List.getElem?_eq_some_iff.1 he).1; simp at this; omega
   rw [this] at he; simp at he; subst he; simp
theorem Inv.dropTop {V : Value} {env' : Env} (hI : Inv GL B0 w0 g env σ (tm.push V) w) (he : ∀ t, t ≠ tm.size → get env' t = get env t) (ht : RelS g tm.size (get env' tm.size) Go.undef) : Inv GL B0 w0 g env' σ tm w := by
 refine hI.reframe fun t => ?_
 by_cases e : t = tm.size
 ·subst e
  rw [show tm.getD tm.size Go.undef = Go.undef by simp]
  exact ht
 ·rw [he t e]
  have := hI.env t
  rwa [push_get, if_neg e] at this
theorem fold_get (ps : List Nat) : ∀ (Args : List Value) (tm : Array Value), ps.Nodup → ps.length = Args.length → (∀ t ∈ ps, t < tm.size) → ((ps.zip Args).foldl (fun tmps (t, a) => tmps.setIfInBounds t a) tm).size = tm.size ∧
 (∀ t, t ∉ ps → ((ps.zip Args).foldl (fun tmps (t, a) => tmps.setIfInBounds t a) tm).getD t Go.undef = tm.getD t Go.undef) ∧
 (∀ (i t : Nat), ps[i]? = some t → ((ps.zip Args).foldl (fun tmps (t, a) => tmps.setIfInBounds t a) tm).getD t Go.undef = Args.getD i Go.undef) := by
 induction ps with
 | nil => intro Args tm _ _ _; exact ⟨rfl, fun _ _ => rfl, fun i t h => by simp at h⟩
 | cons p ps ih =>
  intro Args tm hn hl hlt
  cases Args with
  | nil => simp at hl
  | cons A Args =>
   obtain ⟨hp, hn'⟩ := List.nodup_cons.1 hn
   obtain ⟨h1, h2, h3⟩ := ih Args (tm.setIfInBounds p A) hn' (by simpa using hl) (fun t ht => by simpa using hlt t (List.mem_cons_of_mem p ht))
   simp only [List.zip_cons_cons, List.foldl_cons]
   refine ⟨by rw [h1]; simp, fun t ht => ?_, fun i t hi => ?_⟩
   ·rw [h2 t (fun h => ht (List.mem_cons_of_mem p h))]
    have hne : p ≠ t := fun e => ht (by subst e; simp)
    simp [Array.getD_eq_getD_getElem?, Array.getElem?_setIfInBounds_ne hne]
   ·cases i with
    | zero =>
     simp at hi; subst hi
     rw [h2 p hp]
     have := hlt p (by simp)
     simp [Array.getD_eq_getD_getElem?, Array.getElem?_setIfInBounds_self_of_lt this]
    | succ i =>
     simp at hi
     rw [h3 i t hi]; rfl
theorem zip_get : ∀ (ps : List Nat) (vs : List AV) (env : Env), ps.Nodup → ps.length = vs.length → (∀ t, t ∉ ps → get (ps.zip vs ++ env) t = get env t) ∧ (∀ (i t : Nat), ps[i]? = some t → get (ps.zip vs ++ env) t = (vs[i]?).getD .undef)
 | [], vs, env, _, _ => ⟨fun _ _ => rfl, fun i t h => by simp at h⟩
 | p :: ps, [], env, _, hl => by simp at hl
 | p :: ps, v :: vs, env, hn, hl => by
  obtain ⟨hp, hn'⟩ := List.nodup_cons.1 hn
  obtain ⟨h1, h2⟩ := zip_get ps vs env hn' (by simpa using hl)
  refine ⟨fun t ht => ?_, fun i t hi => ?_⟩
  ·simp only [List.zip_cons_cons, List.cons_append, get, beq_iff_eq]
   rw [if_neg (fun e => ht (by subst e; simp))]
   exact h1 t (fun h => ht (List.mem_cons_of_mem p h))
  ·simp only [List.zip_cons_cons, List.cons_append, get, beq_iff_eq]
   cases i with
   | zero => simp at hi; subst hi; simp
   | succ i =>
    simp at hi
    rw [if_neg (fun e => hp (by subst e; exact List.mem_of_getElem? hi))]
    rw [h2 i t hi]; simp
theorem copyAs_get : ∀ (vs : List AV) (i : Nat), ((copyAs vs)[i]?).getD .undef = copyA ((vs[i]?).getD .undef)
 | [], i => by simp [copyAs, copyA, copyV]
 | v :: vs, i => by
  cases i with
  | zero => simp [copyAs]
  | succ i => simpa [copyAs] using copyAs_get vs i
theorem copyAs_len : ∀ (vs : List AV), (copyAs vs).length = vs.length
 | [] => rfl
 | v :: vs => by simp [copyAs, copyAs_len vs]
theorem Inv.round {args : List AV} {Args : Array Value} (hI : Inv GL B0 w0 g (envOf 0 args) σ Args w) (hl : args.length = Args.size) {ps : Array Nat} {env0 : Env} {tm0 : Array Value} (hn : ps.toList.Nodup) (hp : ps.toList.length = args.length) (hlt : ∀ t ∈ ps.toList, t < tm0.size) (h0 : ∀ t, RelA g (fun _ => False) (get env0 t) (tm0.getD t Go.undef)) :
 Inv GL B0 w0 g (ps.toList.zip (copyAs args) ++ env0) σ ((ps.zip Args).foldl (fun tmps (t, a) => tmps.setIfInBounds t a) tm0) w ∧ ((ps.zip Args).foldl (fun tmps (t, a) => tmps.setIfInBounds t a) tm0).size = tm0.size := by
 have e : (ps.zip Args).foldl (fun tmps (t, a) => tmps.setIfInBounds t a) tm0 = (ps.toList.zip Args.toList).foldl (fun tmps (t, a) => tmps.setIfInBounds t a) tm0 := by
  rw [← Array.foldl_toList, Array.toList_zip]
 obtain ⟨f1, f2, f3⟩ := fold_get ps.toList Args.toList tm0 hn (by rw [hp, hl]; simp) hlt
 obtain ⟨z1, z2⟩ := zip_get ps.toList (copyAs args) env0 hn (by rw [copyAs_len]; exact hp)
 rw [e]
 refine ⟨hI.reframe fun t => ?_, f1⟩
 by_cases ht : t ∈ ps.toList
 ·obtain ⟨i, hi⟩ := List.mem_iff_getElem?.1 ht
  rw [z2 i t hi, f3 i t hi, copyAs_get]
  have hr := hI.rdc (ty := []) (.tmp i)
  have e1 : AM.rdc ⟨[], GL⟩ (envOf 0 args) (.tmp i) = copyA ((args[i]?).getD .undef) := by
   show copyA (get (envOf 0 args) i) = _
   rw [get_envOf, if_pos (Nat.zero_le _), Nat.sub_zero]
  have e2 : evT Args (.tmp i) = Args.toList.getD i Go.undef := by
   show Args.getD i Go.undef = _
   rw [Array.getD_eq_getD_getElem?, List.getD_eq_getElem?_getD, Array.getElem?_toList]
  rw [e1, e2] at hr
  exact RelS.of_A hr
 ·rw [z1 t ht, f2 t ht]
  exact RelS.of_A (h0 t)
theorem run_enterLoop_inner {l : Nat} {r : Loop} (h : w.heap[l]? = some (.loop r)) (fn : FuncId) (tmps : Array Value) (ps : Array Tmp) (assign body : Code) :
 (Instr.enterLoop fn tmps ps assign body (some l)).run P w = .ok (w.heap.size, []) (w.alloc (.loop { state := .ready, pending := none, fn, tmps, params := ps, assign, body, defers := r.defers })) := by
 unfold Instr.enterLoop
 simp only [Sem.run_bind, run_getLoop h, run_newObj_alloc, Result.andThen, Sem.run_pure]
theorem Marks.touch {lo l : Nat} {Ds : List Nat} {o : Obj} (h : Marks g lo w Ds) (hne : ∀ D ∈ Ds, D ≠ l) : Marks g lo (w.putObj l o) Ds :=
 ⟨h.1, fun D hD => let ⟨h1, h2, h3, h4⟩ := h.2 D hD; ⟨h1, by simpa using h2, h3, (World.putObj_heap_other (hne D hD)).trans h4⟩⟩
theorem leaves_marksK {F : Fence} {n : Nat} {fn : Func} {R : Ending → World → Prop} {u : FrameMode} (hu : u ≠ .run) {ds : List Deferred} {Es : List Nat} : ∀ (Ds : List Nat) {w : World}, Marks g 0 w (Ds ++ Es) → B0 ≤ w.heap.size → (∀ D ∈ Ds, B0 ≤ D) → Inv GL B0 w0 g env σ tm w →
 (∀ w', Inv GL B0 w0 g env σ tm w' → Marks g 0 w' Es → (∀ (g0 : G) (w00 : World), Post g0 w00 g w → (∀ D ∈ Ds, w00.heap.size ≤ D) → Post g0 w00 g w') → LeavesInM F n P fn tm R ds u w') → LeavesInM F n P fn tm R (Ds.map markD ++ ds) u w
 | [], w, hM, _, _, hI, hR => hR w hI hM (fun _ _ h _ => h)
 | D :: Ds, w, hM, hB, hDs, hI, hR => by
  obtain ⟨_, hlt, ht, hd⟩ := hM.2 D (by simp)
  obtain ⟨hnin, hnd⟩ := List.nodup_cons.1 hM.1
  refine ⟨hu, .inl ⟨D, _, rfl, run_takeDeferred hd, ?_⟩⟩
  have hI' := hI.touch (o' := .deferred none) (hDs D (by simp)) hd (fun _ _ _ e => by cases e) (fun pl h => by rw [ht] at h; cases h)
  have hM' : Marks g 0 (w.putObj D (.deferred none)) (Ds ++ Es) := ⟨hnd, fun E hE => by
   obtain ⟨h1, h2, h3, h4⟩ := hM.2 E (List.mem_cons_of_mem D hE)
   exact ⟨h1, by simpa using h2, h3, (World.putObj_heap_other (fun e => hnin (by subst e; exact hE))).trans h4⟩⟩
  refine leaves_marksK hu Ds hM' (by simpa using hB) (fun E hE => hDs E (List.mem_cons_of_mem D hE)) hI' (fun w' h1 h1' h2 => hR w' h1 h1' fun g0 w00 hP hle => ?_)
  refine h2 g0 w00 (hP.touch hd (.inl (hle D (by simp))) (fun ⟨r, h⟩ => by cases h)) (fun E hE => hle E (List.mem_cons_of_mem D hE))
theorem leaves_marks {F : Fence} {n : Nat} {fn : Func} {R : Ending → World → Prop} : ∀ (Ds : List Nat) {w : World}, Marks g 0 w Ds → B0 ≤ w.heap.size → (∀ D ∈ Ds, B0 ≤ D) → Inv GL B0 w0 g env σ tm w →
 (∀ w', Inv GL B0 w0 g env σ tm w' → (∀ (g0 : G) (w00 : World), Post g0 w00 g w → (∀ D ∈ Ds, w00.heap.size ≤ D) → Post g0 w00 g w') → ∃ v, (results fn tm).run P w' = .ok v w' ∧ R (.returned v) w') → LeavesInM F n P fn tm R (Ds.map markD) .returning w
 | [], w, _, _, _, hI, hR => by
  obtain ⟨v, h1, h2⟩ := hR w hI (fun _ _ h _ => h)
  exact ⟨v, h1, h2⟩
 | D :: Ds, w, hM, hB, hDs, hI, hR => by
  obtain ⟨_, hlt, ht, hd⟩ := hM.2 D (by simp)
  obtain ⟨hnin, hnd⟩ := List.nodup_cons.1 hM.1
  refine ⟨by simp, .inl ⟨D, _, rfl, run_takeDeferred hd, ?_⟩⟩
  have hI' := hI.touch (o' := .deferred none) (hDs D (by simp)) hd (fun _ _ _ e => by cases e) (fun pl h => by rw [ht] at h; cases h)
  have hM' : Marks g 0 (w.putObj D (.deferred none)) Ds := ⟨hnd, fun E hE => by
   obtain ⟨h1, h2, h3, h4⟩ := hM.2 E (List.mem_cons_of_mem D hE)
   exact ⟨h1, by simpa using h2, h3, (World.putObj_heap_other (fun e => hnin (by subst e; exact hE))).trans h4⟩⟩
  refine leaves_marks Ds hM' (by simpa using hB) (fun E hE => hDs E (List.mem_cons_of_mem D hE)) hI' (fun w' h1 h2 => hR w' h1 fun g0 w00 hP hle => ?_)
  refine h2 g0 w00 (hP.touch hd (.inl (hle D (by simp))) (fun ⟨r, h⟩ => by cases h)) (fun E hE => hle E (List.mem_cons_of_mem D hE))
end
end Go.AM
