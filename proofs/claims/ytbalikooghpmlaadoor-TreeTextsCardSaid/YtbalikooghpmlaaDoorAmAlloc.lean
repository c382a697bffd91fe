/- A part of the abstract machine and its simulation. -/
import Derived.Test.YtbalikooghpmlaaDoorAmMem
import Derived.Laws.AppendOwn
import Derived.Laws.NewBlocks
set_option linter.unusedVariables false
set_option linter.unusedSimpArgs false
namespace Go.AM
open Go Go.RowKit
def upd {α : Type} (f : Nat → α) (b : Nat) (v : α) : Nat → α := fun k => if k = b then v else f k
theorem upd_self {α : Type} (f : Nat → α) (b : Nat) (v : α) : upd f b v b = v := by simp [upd]
theorem upd_ne {α : Type} (f : Nat → α) {b k : Nat} (v : α) (h : k ≠ b) : upd f b v k = f k := by simp [upd, h]
section
variable {GL : List (Nat × List PV)} {B0 : Nat} {w0 : World} {g : G} {env : Env} {σ : List AObj} {tm : Array Value} {w : World}
structure Ext (B0 : Nat) (g g' : G) (w w' : World) : Prop where
 le : Gle g g'
 below : Below B0 w w'
 fz : ∀ b o u, g'.Φ b o = some u → w'.cell? ⟨b, o, none⟩ = some u
 tlt : ∀ b pl, g'.tag b = some pl → B0 ≤ b ∧ b < w'.heap.size
 own : ∀ b pl, g'.tag b = some pl → (∀ id, pl ≠ .obj id) → pl ≠ .mark → ∃ C, Blk w' b C ∧ C.size = g'.bs b
 mlt : ∀ (id : Nat) e, g'.μ[id]? = some e → e.blk < w'.heap.size
theorem Inv.ext (hI : Inv GL B0 w0 g env σ tm w) {g' : G} {w' : World} (hE : Ext B0 g g' w w') {env' : Env} {σ' : List AObj} {tm' : Array Value} (henv : ∀ t, RelS g' t (get env' t) (tm'.getD t Go.undef))
 (hobj : ∀ (id : Nat) o, σ'[id]? = some o → RelObj g' w' id o) (hlen : g'.μ.length = σ'.length) : Inv GL B0 w0 g' env' σ' tm' w' :=
 ⟨hI.below.trans hE.below, Nat.le_trans hI.base hE.below.size, hE.fz, hE.tlt, hE.own, henv, hobj, hlen, fun k cs hk => (hI.glob k cs hk).mono hE.le.Φ _ _ _, hE.mlt⟩
theorem Inv.Φ_lt (hI : Inv GL B0 w0 g env σ tm w) {b o : Nat} (hb : w.heap.size ≤ b) : g.Φ b o = none := by
 cases h : g.Φ b o with
 | none => rfl
 | some u =>
  have := World.block_lt_of_cell? w _ (hI.fz b o u h)
  simp at this; omega
theorem Inv.tag_lt (hI : Inv GL B0 w0 g env σ tm w) {b : Nat} (hb : w.heap.size ≤ b) : g.tag b = none := by
 cases h : g.tag b with
 | none => rfl
 | some pl => have := (hI.tlt b pl h).2; omega
def G.fresh (g : G) (b n : Nat) (pl : Pl) (Φ : Mem) (μ : List ME) : G := ⟨Φ, upd g.bs b n, μ, upd g.tag b (some pl)⟩
theorem Inv.fresh_keep (hI : Inv GL B0 w0 g env σ tm w) (o : Obj) {Φ : Mem} {n : Nat} {pl : Pl} {μ : List ME} (hΦ : ∀ b q, b < w.heap.size → Φ b q = g.Φ b q) :
 KeepPl g (g.fresh w.heap.size n pl Φ μ) w (w.alloc o) (fun _ => True) := by
 intro b p hb _
 have hlt := (hI.tlt b p hb).2
 exact ⟨by simp [G.fresh, upd, Nat.ne_of_lt hlt, hb], by simp [G.fresh, upd, Nat.ne_of_lt hlt], fun q hq => by simp [G.fresh, hΦ b q hlt, hq], heap_alloc_old w o b hlt⟩
theorem Inv.fresh_post (hI : Inv GL B0 w0 g env σ tm w) (o : Obj) {Φ : Mem} {n : Nat} {pl : Pl} {μ : List ME} (hG : Gle g (g.fresh w.heap.size n pl Φ μ)) (hΦ : ∀ b q, b < w.heap.size → Φ b q = g.Φ b q) :
 Post g w (g.fresh w.heap.size n pl Φ μ) (w.alloc o) :=
 ⟨by simp, hG, fun b hb ht => ⟨heap_alloc_old w o b hb, by simp [G.fresh, upd, Nat.ne_of_lt hb, ht], by simp [G.fresh, upd, Nat.ne_of_lt hb], fun q => by simp [G.fresh, hΦ b q hb]⟩, loops_alloc⟩
theorem Inv.fresh_ext (hI : Inv GL B0 w0 g env σ tm w) (C : Array Value) (t : TypeId) {Φ : Mem} {pl : Pl} {μ : List ME} (hΦ : ∀ b q, b < w.heap.size → Φ b q = g.Φ b q) (hΦn : ∀ q u, Φ w.heap.size q = some u → C[q]? = some u) (hΦm : ∀ b q, w.heap.size < b → Φ b q = none)
 (hμ : μ = g.μ ∨ ∃ e, μ = g.μ ++ [e] ∧ e.blk = w.heap.size) : Ext B0 g (g.fresh w.heap.size C.size pl Φ μ) w (w.alloc (.cells C t)) := by
 have hget : ∀ (id : Nat) e, g.μ[id]? = some e → μ[id]? = some e := by
  intro id e he
  rcases hμ with rfl | ⟨e', rfl, _⟩
  ·exact he
  ·rw [List.getElem?_append_left (List.getElem?_eq_some_iff.1 he).1]; exact he
 refine ⟨⟨fun b q u hu => ?_, fun id e he => ⟨e, hget id e he, rfl, Nat.le_refl _, fun _ => ⟨rfl, rfl, fun _ => ?_⟩, fun _ => rfl⟩⟩, (Below.refl _ _).alloc hI.base _, fun b q u hu => ?_, fun b p hb => ?_, fun b p hb h1 h2 => ?_, fun id e he => ?_⟩
 ·have hlt := World.block_lt_of_cell? w _ (hI.fz b q u hu)
  simp only [G.fresh]; rw [hΦ b q hlt]; exact hu
 ·simp [G.fresh, upd, Nat.ne_of_lt (hI.mlt id e he)]
 ·simp only [G.fresh] at hu
  rcases Nat.lt_trichotomy b w.heap.size with h | h | h
  ·rw [hΦ b q h] at hu
   rw [World.cell?_of_block (w := w) (a := ⟨b, q, none⟩) (heap_alloc_old w _ b h)]
   exact hI.fz b q u hu
  ·subst h
   rw [cell_of_row _ _ q C t (0, 0) (heap_alloc_new w _)]
   exact hΦn q u hu
  ·rw [hΦm b q h] at hu; cases hu
 ·simp only [G.fresh, upd] at hb
  split at hb
  ·rename_i e; subst e; exact ⟨hI.base, by simp⟩
  ·have := hI.tlt b p hb; simp; omega
 ·simp only [G.fresh, upd] at hb ⊢
  split at hb
  ·rename_i e; subst e
   exact ⟨C, ⟨t, heap_alloc_new w _⟩, by simp⟩
  ·rename_i hne
   obtain ⟨D, ⟨el, hD⟩, hs⟩ := hI.own b p hb h1 h2
   exact ⟨D, ⟨el, by rw [heap_alloc_old w _ b (hI.tlt b p hb).2]; exact hD⟩, by simp [hne, hs]⟩
 ·have hold : ∀ (id : Nat) e, g.μ[id]? = some e → e.blk < (w.alloc (.cells C t)).heap.size := fun id e he => by have := hI.mlt id e he; simp; omega
  simp only [G.fresh] at he
  rcases hμ with rfl | ⟨e', rfl, h'⟩
  ·exact hold id e he
  ·by_cases hid : id < g.μ.length
   ·rw [List.getElem?_append_left hid] at he; exact hold id e he
   ·rw [List.getElem?_append_right (by omega)] at he
    have : id - g.μ.length = 0 := by
     have := (List.getElem?_eq_some_iff.1 he).1; simp at this; omega
    rw [this] at he; simp at he; subst he; rw [h']; simp
theorem Inv.push_dead (hI : Inv GL B0 w0 g env σ tm w) (k : Nat) (hne : σ ≠ []) :
 ∃ g', Inv GL B0 w0 g' env (σ ++ [.dead]) tm w ∧ Gle g g' ∧ Post g w g' w ∧ ∃ e, g'.μ[σ.length]? = some e ∧ e.arr = true := by
 obtain ⟨e0, h0⟩ : ∃ e0, g.μ[0]? = some e0 := by
  have : 0 < g.μ.length := by rw [hI.len]; exact List.length_pos_iff.2 hne
  exact ⟨_, List.getElem?_eq_getElem this⟩
 have hμ : ∀ id e, g.μ[id]? = some e → (g.μ ++ [(⟨0, e0.blk, 0, true⟩ : ME)])[id]? = some e := fun id e h => by
  rw [List.getElem?_append_left (List.getElem?_eq_some_iff.1 h).1]; exact h
 have hG : Gle g ⟨g.Φ, g.bs, g.μ ++ [⟨0, e0.blk, 0, true⟩], g.tag⟩ := ⟨MemLe.refl _, fun id e h => ⟨e, hμ id e h, rfl, Nat.le_refl _, fun _ => ⟨rfl, rfl, fun _ => rfl⟩, fun _ => rfl⟩⟩
 have hK : KeepPl g ⟨g.Φ, g.bs, g.μ ++ [⟨0, e0.blk, 0, true⟩], g.tag⟩ w w (fun _ => True) := fun b pl hb _ => ⟨hb, rfl, fun _ h => h, rfl⟩
 have hs : (g.μ ++ [(⟨0, e0.blk, 0, true⟩ : ME)])[σ.length]? = some ⟨0, e0.blk, 0, true⟩ := by rw [← hI.len]; simp
 refine ⟨⟨g.Φ, g.bs, g.μ ++ [⟨0, e0.blk, 0, true⟩], g.tag⟩, ⟨hI.below, hI.base, hI.fz, hI.tlt, hI.own, fun t => (hI.env t).keep hG hK trivial (fun _ => trivial), fun id o ho => ?_, by simp [hI.len], hI.glob, fun id e he => ?_⟩, hG, ⟨Nat.le_refl _, hG, fun b hb ht => ⟨rfl, ht, rfl, fun _ => rfl⟩, fun b r h => ⟨r, h⟩⟩, _, hs, rfl⟩
 ·by_cases hid : id < σ.length
  ·rw [List.getElem?_append_left hid] at ho
   exact (hI.objs id o ho).keep hG hK trivial (fun _ => trivial) (fun _ _ => trivial) (fun e he _ => hμ id e he)
  ·have hid' : id = σ.length := by
    have := (List.getElem?_eq_some_iff.1 ho).1; simp at this; omega
   subst hid'
   simp at ho; subst ho
   exact ⟨_, hs, rfl, rfl, rfl⟩
 ·by_cases hid : id < g.μ.length
  ·have he' : (g.μ ++ [(⟨0, e0.blk, 0, true⟩ : ME)])[id]? = some e := he
   rw [List.getElem?_append_left hid] at he'; exact hI.mlt id e he'
  ·have he' : (g.μ ++ [(⟨0, e0.blk, 0, true⟩ : ME)])[id]? = some e := he
   have hid' : id = g.μ.length := by
    have := (List.getElem?_eq_some_iff.1 he').1; simp at this; omega
   subst hid'
   simp at he'; subst he'
   exact hI.mlt 0 e0 h0
theorem Inv.alloc_cells (hI : Inv GL B0 w0 g env σ tm w) {cs : List AV} {C : Array Value} (hr : RelA1 g cs C.toList) (t : TypeId) :
 ∃ g', Inv GL B0 w0 g' env (σ ++ [.cells cs]) tm (w.alloc (.cells C t)) ∧ Post g w g' (w.alloc (.cells C t)) ∧ Gle g g' ∧ (∃ e, g'.μ[σ.length]? = some e ∧ e.arr = false ∧ e.blk = w.heap.size) ∧ (∀ b pl, g.tag b = some pl → g'.tag b = some pl) := by
 have hΦ : ∀ b q, b < w.heap.size → g.Φ b q = g.Φ b q := fun _ _ _ => rfl
 have hμ : (g.fresh w.heap.size C.size (.obj σ.length) g.Φ (g.μ ++ [⟨0, w.heap.size, 0, false⟩])).μ[σ.length]? = some ⟨0, w.heap.size, 0, false⟩ := by
  simp only [G.fresh]; rw [← hI.len]; simp
 have hE := hI.fresh_ext C t (pl := .obj σ.length) (μ := g.μ ++ [⟨0, w.heap.size, 0, false⟩]) hΦ (fun q u hu => by rw [hI.Φ_lt (Nat.le_refl _)] at hu; cases hu) (fun b q hb => hI.Φ_lt (by omega)) (.inr ⟨_, rfl, rfl⟩)
 have hk := hI.fresh_keep (.cells C t) (n := C.size) (pl := .obj σ.length) (μ := g.μ ++ [⟨0, w.heap.size, 0, false⟩]) hΦ
 refine ⟨_, hI.ext hE (fun t => (hI.env t).keep hE.le hk trivial (fun _ => trivial)) (fun id o ho => ?_) (by simp [G.fresh, hI.len]), hI.fresh_post _ hE.le hΦ, hE.le, ⟨_, hμ, rfl, rfl⟩, fun b pl hb => (hk b pl hb trivial).1⟩
 by_cases hid : id < σ.length
 ·rw [List.getElem?_append_left hid] at ho
  refine (hI.objs id o ho).keep hE.le hk trivial (fun _ => trivial) (fun _ _ => trivial) (fun e he _ => ?_)
  simp only [G.fresh]; rw [List.getElem?_append_left (List.getElem?_eq_some_iff.1 he).1]; exact he
 ·have hid' : id = σ.length := by
   have := (List.getElem?_eq_some_iff.1 ho).1; simp at this; omega
  subst hid'
  simp at ho; subst ho
  obtain ⟨l, f⟩ := hr.get
  refine ⟨_, hμ, rfl, by simp [G.fresh, upd], fun o => hI.Φ_lt (Nat.le_refl _), C, ⟨t, heap_alloc_new w _⟩, by simpa using l.symm, fun j c hc => ?_⟩
  obtain ⟨u, hu, o1, r⟩ := f j c hc
  exact ⟨u, by simpa using hu, o1, r.mono hE.le _ _ _ _ Keeps.of_false⟩
theorem Inv.alloc_arr (hI : Inv GL B0 w0 g env σ tm w) {rows : List (List AV)} {sz : Nat} {C : Array Value} (hl : ∀ r, r ∈ rows → r.length = sz) (hs : rows.length * sz ≤ C.size) (t : TypeId)
 (hr : ∀ (i : Nat) r (j : Nat) c, rows[i]? = some r → r[j]? = some c → ∃ u, C[i * sz + j]? = some u ∧ one u = true ∧ RelA g (fun _ => False) c u) :
 ∃ g', Inv GL B0 w0 g' env (σ ++ [.arr 0 sz rows]) tm (w.alloc (.cells C t)) ∧ Post g w g' (w.alloc (.cells C t)) ∧ Gle g g' ∧ (∃ e, g'.μ[σ.length]? = some e ∧ e.arr = true ∧ e.gen = 0 ∧ e.sz = sz ∧ e.blk = w.heap.size ∧ g'.bs e.blk = C.size) := by
 have hΦ : ∀ b q, b < w.heap.size → g.Φ b q = g.Φ b q := fun _ _ _ => rfl
 have hμ : (g.fresh w.heap.size C.size (.obj σ.length) g.Φ (g.μ ++ [⟨0, w.heap.size, sz, true⟩])).μ[σ.length]? = some ⟨0, w.heap.size, sz, true⟩ := by
  simp only [G.fresh]; rw [← hI.len]; simp
 have hE := hI.fresh_ext C t (pl := .obj σ.length) (μ := g.μ ++ [⟨0, w.heap.size, sz, true⟩]) hΦ (fun q u hu => by rw [hI.Φ_lt (Nat.le_refl _)] at hu; cases hu) (fun b q hb => hI.Φ_lt (by omega)) (.inr ⟨_, rfl, rfl⟩)
 have hk := hI.fresh_keep (.cells C t) (n := C.size) (pl := .obj σ.length) (μ := g.μ ++ [⟨0, w.heap.size, sz, true⟩]) hΦ
 refine ⟨_, hI.ext hE (fun t => (hI.env t).keep hE.le hk trivial (fun _ => trivial)) (fun id o ho => ?_) (by simp [G.fresh, hI.len]), hI.fresh_post _ hE.le hΦ, hE.le, ⟨_, hμ, rfl, rfl, rfl, rfl, by simp [G.fresh, upd]⟩⟩
 by_cases hid : id < σ.length
 ·rw [List.getElem?_append_left hid] at ho
  refine (hI.objs id o ho).keep hE.le hk trivial (fun _ => trivial) (fun _ _ => trivial) (fun e he _ => ?_)
  simp only [G.fresh]; rw [List.getElem?_append_left (List.getElem?_eq_some_iff.1 he).1]; exact he
 ·have hid' : id = σ.length := by
   have := (List.getElem?_eq_some_iff.1 ho).1; simp at this; omega
  subst hid'
  simp at ho; subst ho
  refine ⟨_, hμ, rfl, rfl, rfl, by simp [G.fresh, upd], fun o => hI.Φ_lt (Nat.le_refl _), C, ⟨t, heap_alloc_new w _⟩, by simp [G.fresh, upd], hs, hl, fun i r j c hi hc => ?_⟩
  obtain ⟨u, hu, o1, rr⟩ := hr i r j c hi hc
  exact ⟨u, hu, o1, rr.mono hE.le _ _ _ _ Keeps.of_false⟩
theorem Inv.alloc_own (hI : Inv GL B0 w0 g env σ tm w) (C : Array Value) (t : TypeId) (k d : Nat) :
 ∃ g', Ext B0 g g' w (w.alloc (.cells C t)) ∧ Post g w g' (w.alloc (.cells C t)) ∧ KeepPl g g' w (w.alloc (.cells C t)) (fun _ => True) ∧ g'.μ = g.μ ∧
  g'.tag w.heap.size = some (.slot d) ∧ g'.bs w.heap.size = C.size ∧ (∀ q, q < k → g'.Φ w.heap.size q = C[q]?) ∧ (∀ q, k ≤ q → g'.Φ w.heap.size q = none) := by
 let Φ : Mem := fun b q => if b = w.heap.size then (if q < k then C[q]? else none) else g.Φ b q
 have hΦ : ∀ b q, b < w.heap.size → Φ b q = g.Φ b q := fun b q hb => by simp [Φ, Nat.ne_of_lt hb]
 have hE := hI.fresh_ext C t (Φ := Φ) (pl := .slot d) (μ := g.μ) hΦ (fun q u hu => by
  simp only [Φ, if_true] at hu
  split at hu
  ·exact hu
  ·cases hu) (fun b q hb => by simp only [Φ]; rw [if_neg (by omega)]; exact hI.Φ_lt (by omega)) (.inl rfl)
 refine ⟨_, hE, hI.fresh_post _ hE.le hΦ, hI.fresh_keep _ hΦ, rfl, by simp [G.fresh, upd], by simp [G.fresh, upd], fun q hq => by simp [G.fresh, Φ, hq], fun q hq => by simp [G.fresh, Φ]; omega⟩
end
end Go.AM
