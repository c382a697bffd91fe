/- A part of the abstract machine and its simulation. -/
import Derived.Test.YtbalikooghpmlaaDoorAmOps11
set_option linter.unusedVariables false
set_option linter.unusedSimpArgs false
namespace Go.AM
open Go Go.RowKit
section
variable {GL : List (Nat × List PV)} {B0 : Nat} {w0 : World} {g : G} {env : Env} {σ : List AObj} {s : S} {tm : Array Value} {w : World} {ty : List TI} {P : Program} {H : FuncId → FH} {C : CallF} {h : FH} {base : Nat}
theorem Inv.regen (hI : Inv GL B0 w0 g env σ tm w) {id gen sz : Nat} {rows : List (List AV)} {e : ME} (h0 : id < σ.length) (he : g.μ[id]? = some e) (heg : e.gen = gen) (hea : e.arr = true) {g' : G} {w' : World} {blk' : Nat} {D' : Array Value}
 (hΦ : g'.Φ = g.Φ) (hμ : g'.μ = g.μ.set id ⟨gen + 1, blk', sz, true⟩) (hK : KeepPl g g' w w' (fun p => p ≠ .obj id)) (ht : g'.tag blk' = some (.obj id)) (hf : ∀ o, g.Φ blk' o = none) (hb : Below B0 w w')
 (hfz : ∀ b o u, g.Φ b o = some u → w'.cell? ⟨b, o, none⟩ = some u) (htl : ∀ b pl, g'.tag b = some pl → B0 ≤ b ∧ b < w'.heap.size)
 (hown : ∀ b pl, g'.tag b = some pl → (∀ id, pl ≠ .obj id) → pl ≠ .mark → ∃ C, Blk w' b C ∧ C.size = g'.bs b) (hD : Blk w' blk' D') (hDs : D'.size = g'.bs blk') (hl : rows.length * sz ≤ D'.size) (hrl : ∀ r, r ∈ rows → r.length = sz)
 (hbs : ∀ id' e', id' ≠ id → g.μ[id']? = some e' → g'.bs e'.blk = g.bs e'.blk)
 (hc : ∀ (i : Nat) r (j : Nat) c, rows[i]? = some r → r[j]? = some c → ∃ u, D'[i * sz + j]? = some u ∧ one u = true ∧ RelA g (fun b => g.tag b = some (.elem id i j)) c u) :
 Inv GL B0 w0 g' env (σ.set id (.arr (gen + 1) sz rows)) tm w' ∧ Gle g g' ∧ g'.μ[id]? = some ⟨gen + 1, blk', sz, true⟩ := by
 have hidl : id < g.μ.length := (List.getElem?_eq_some_iff.1 he).1
 have hμs : g'.μ[id]? = some ⟨gen + 1, blk', sz, true⟩ := by rw [hμ, List.getElem?_set_self hidl]
 have hG : Gle g g' := by
  refine ⟨by rw [hΦ]; exact MemLe.refl _, fun id' e' he' => ?_⟩
  by_cases hid : id = id'
  ·subst hid
   rw [he] at he'; injection he' with he'; subst he'
   exact ⟨_, hμs, by rw [hea], by simp; omega, fun h => by simp at h; omega, fun h => by rw [hea] at h; cases h⟩
  ·refine ⟨e', by rw [hμ, List.getElem?_set_ne hid]; exact he', rfl, Nat.le_refl _, fun _ => ⟨rfl, rfl, fun _ => hbs id' e' (Ne.symm hid) he'⟩, fun _ => rfl⟩
 refine ⟨⟨hI.below.trans hb, Nat.le_trans hI.base hb.size, by rw [hΦ]; exact hfz, htl, hown, fun t => (hI.env t).keep hG hK (by simp) (fun _ => by simp), fun id' ob hob => ?_, by rw [hμ]; simpa using hI.len, fun k cs hk => by rw [hΦ]; exact hI.glob k cs hk, fun id' e' he' => ?_⟩, hG, hμs⟩
 ·by_cases hid : id = id'
  ·subst hid
   rw [List.getElem?_set_self h0] at hob
   injection hob with hob; subst hob
   refine ⟨_, hμs, rfl, rfl, rfl, ht, by rw [hΦ]; exact hf, D', hD, hDs, hl, hrl, fun i r j c hi hj => ?_⟩
   obtain ⟨u, hu, o1, rr⟩ := hc i r j c hi hj
   exact ⟨u, hu, o1, rr.mono hG _ _ _ _ (Keeps.of_place hK (by simp))⟩
  ·rw [List.getElem?_set_ne hid] at hob
   exact (hI.objs id' ob hob).keep hG hK (by simpa using Ne.symm hid) (fun _ => by simp) (fun _ _ => by simp) (fun e' he' _ => by rw [hμ, List.getElem?_set_ne hid]; exact he')
 ·rw [hμ] at he'
  by_cases hid : id = id'
  ·subst hid
   rw [List.getElem?_set_self hidl] at he'
   injection he' with he'; subst he'
   exact (htl _ _ ht).2
  ·rw [List.getElem?_set_ne hid] at he'
   exact Nat.lt_of_lt_of_le (hI.mlt id' e' he') hb.size
theorem newRows {id gen sz len : Nat} {rows ys : List (List AV)} {D : Array Value} {news : List Value} {X : Value} {e : ME} {D' : Array Value} (hlen : len ≤ rows.length) (hn : Src P g w sz ys X news) (hrl : ∀ r, r ∈ rows → r.length = sz)
 (hj : ∀ (i : Nat) r (j : Nat) c, rows[i]? = some r → r[j]? = some c → ∃ u, D[i * sz + j]? = some u ∧ one u = true ∧ RelA g (fun b => g.tag b = some (.elem id i j)) c u)
 (h1 : ∀ k, k < len * sz → D'[k]? = D[k]?) (h2 : ∀ k, k < news.length → D'[len * sz + k]? = news[k]?) :
 (∀ r, r ∈ rows.take len ++ ys → r.length = sz) ∧
 ∀ (i : Nat) r (j : Nat) c, (rows.take len ++ ys)[i]? = some r → r[j]? = some c → ∃ u, D'[i * sz + j]? = some u ∧ one u = true ∧ RelA g (fun b => g.tag b = some (.elem id i j)) c u := by
 have htl : (rows.take len).length = len := by simp; omega
 refine ⟨fun r hr => ?_, fun i r j c hi hc => ?_⟩
 ·rcases List.mem_append.1 hr with h | h
  ·exact hrl r (List.mem_of_mem_take h)
  ·obtain ⟨k, hk, rfl⟩ := List.mem_iff_getElem.1 h
   exact (hn.at_.2 k _ (List.getElem?_eq_getElem hk)).1
 ·by_cases hlt : i < len
  ·rw [List.getElem?_append_left (by omega), List.getElem?_take, if_pos hlt] at hi
   obtain ⟨u, hu, o1, rr⟩ := hj i r j c hi hc
   refine ⟨u, ?_, o1, rr⟩
   rw [h1 _ (row_lt hlt (by rw [← hrl r (List.mem_of_getElem? hi)]; exact (List.getElem?_eq_some_iff.1 hc).1))]; exact hu
  ·rw [List.getElem?_append_right (by omega), htl] at hi
   obtain ⟨k1, k2⟩ := hn.at_.2 _ r hi
   obtain ⟨u, hu, o1, rr⟩ := k2 j c hc
   rw [List.getElem?_toArray] at hu
   refine ⟨u, ?_, o1, rr.mono (Gle.refl g) _ _ _ _ Keeps.of_false⟩
   have e : i * sz + j = len * sz + ((i - len) * sz + j) := by
    rw [← Nat.add_assoc, ← Nat.add_mul, show len + (i - len) = i by omega]
   rw [e, h2 _ (List.getElem?_eq_some_iff.1 hu).1]; exact hu
theorem Inv.regen_in (hI : Inv GL B0 w0 g env σ tm w) {id gen sz len : Nat} {rows ys : List (List AV)} {news : List Value} {X : Value} {e : ME} (h0 : σ[id]? = some (.arr gen sz rows)) (he : g.μ[id]? = some e) (hlen : len ≤ rows.length) (hn : Src P g w sz ys X news)
 (hroom : (len + ys.length) * sz ≤ g.bs e.blk) :
 ∃ D el, w.heap[e.blk]? = some (.cells D el (0, 0)) ∧ len * sz + news.length ≤ D.size ∧
  ∃ g', Inv GL B0 w0 g' env (σ.set id (.arr (gen + 1) sz (rows.take len ++ ys))) tm (w.setRow e.blk (D.toList.take (len * sz) ++ news ++ D.toList.drop (len * sz + news.length)).toArray) ∧
   Post g w g' (w.setRow e.blk (D.toList.take (len * sz) ++ news ++ D.toList.drop (len * sz + news.length)).toArray) ∧ g'.μ[id]? = some ⟨gen + 1, e.blk, sz, true⟩ ∧ g'.bs = g.bs := by
 obtain ⟨e', he', hea, heg, hesz, ht, hf, D, ⟨el, hD⟩, hDs, hl, hrl, hj⟩ := hI.objs id _ h0
 rw [he] at he'; injection he' with he'; subst he'
 have hsz := hn.sz
 have hfit : len * sz + news.length ≤ D.size := by rw [Nat.add_mul] at hroom; omega
 have hbl := hI.tlt _ _ ht
 refine ⟨D, el, hD, hfit, ?_⟩
 have hother : ∀ b', b' ≠ e.blk → (w.setRow e.blk (D.toList.take (len * sz) ++ news ++ D.toList.drop (len * sz + news.length)).toArray).heap[b']? = w.heap[b']? := fun b' hb => setRow_other w e.blk b' _ hb
 have hself : (w.setRow e.blk (D.toList.take (len * sz) ++ news ++ D.toList.drop (len * sz + news.length)).toArray).heap[e.blk]? = some (.cells (D.toList.take (len * sz) ++ news ++ D.toList.drop (len * sz + news.length)).toArray el (0, 0)) := setRow_heap w e.blk D _ el (0, 0) hD
 have hget : ∀ j, (D.toList.take (len * sz) ++ news ++ D.toList.drop (len * sz + news.length)).toArray[j]? = if j < len * sz then D[j]? else if j < len * sz + news.length then news[j - len * sz]? else D[j]? := fun j => by
  rw [List.getElem?_toArray]; exact laid_get D (len * sz) news hfit j
 have hsize : (D.toList.take (len * sz) ++ news ++ D.toList.drop (len * sz + news.length)).toArray.size = D.size := by simp; omega
 generalize (D.toList.take (len * sz) ++ news ++ D.toList.drop (len * sz + news.length)).toArray = D' at *
 have hbel : (w.setRow e.blk D').os = w.os ∧ (w.setRow e.blk D').tape = w.tape ∧ (w.setRow e.blk D').output = w.output := ⟨rfl, rfl, rfl⟩
 have hheap : (w.setRow e.blk D').heap.size = w.heap.size := by simp
 have hlp := loops_row (D := D') hD
 generalize w.setRow e.blk D' = w' at *
 obtain ⟨hnl, hnc⟩ := newRows (D' := D') (gen := gen) (e := e) hlen hn hrl hj (fun k hk => by rw [hget, if_pos hk]) (fun k hk => by rw [hget, if_neg (by omega), if_pos (by omega), show len * sz + k - len * sz = k by omega])
 obtain ⟨hI', hG, hμ'⟩ := hI.regen (g' := ⟨g.Φ, g.bs, g.μ.set id ⟨gen + 1, e.blk, sz, true⟩, g.tag⟩) (w' := w') (blk' := e.blk) (D' := D') (rows := rows.take len ++ ys) (List.getElem?_eq_some_iff.1 h0).1 he heg hea rfl rfl
  (fun b pl hb hA => ⟨hb, rfl, fun _ h => h, hother b (fun e' => by subst e'; rw [ht] at hb; injection hb with hb; exact hA hb.symm)⟩) ht hf
  ⟨hbel.1, hbel.2.1, hbel.2.2, by omega, fun k hk => hother k (by omega)⟩
  (fun b o u hu => (World.cell?_of_block (w := w) (a := ⟨b, o, none⟩) (hother b (fun e' => by subst e'; rw [hf] at hu; cases hu))).trans (hI.fz _ _ _ hu))
  (fun b pl hb => by rw [hheap]; exact hI.tlt b pl hb)
  (fun b pl hb h1 h2 => by
   obtain ⟨E, ⟨el', hE⟩, hEs⟩ := hI.own b pl hb h1 h2
   exact ⟨E, ⟨el', (hother b (fun e' => by subst e'; rw [ht] at hb; injection hb with hb; exact h1 id hb.symm)).trans hE⟩, hEs⟩)
  ⟨el, hself⟩ (by rw [hsize]; exact hDs) (by
   rw [hsize, List.length_append, List.length_take, Nat.min_eq_left hlen, hDs]; exact hroom) hnl (fun _ _ _ _ => rfl) hnc
 refine ⟨_, hI', ⟨by omega, hG, fun b hb ht' => ⟨hother b (fun e' => by subst e'; rw [ht] at ht'; cases ht'), ht', rfl, fun _ => rfl⟩, hlp⟩, hμ', rfl⟩
theorem Inv.regen_new (hI : Inv GL B0 w0 g env σ tm w) {id gen sz len : Nat} {rows ys : List (List AV)} {news : List Value} {X : Value} {e : ME} (h0 : σ[id]? = some (.arr gen sz rows)) (he : g.μ[id]? = some e) (hlen : len ≤ rows.length) (hn : Src P g w sz ys X news)
 {D : Array Value} (hDD : Blk w e.blk D) (t : TypeId) (Z : Array Value) :
 ∃ g', Inv GL B0 w0 g' env (σ.set id (.arr (gen + 1) sz (rows.take len ++ ys))) tm (w.alloc (.cells ((D.toList.take (len * sz)).toArray ++ news.toArray ++ Z) t)) ∧
  Post g w g' (w.alloc (.cells ((D.toList.take (len * sz)).toArray ++ news.toArray ++ Z) t)) ∧ g'.μ[id]? = some ⟨gen + 1, w.heap.size, sz, true⟩ ∧ g'.bs w.heap.size = ((D.toList.take (len * sz)).toArray ++ news.toArray ++ Z).size := by
 obtain ⟨e', he', hea, heg, hesz, ht, hf, D0, ⟨el, hD⟩, hDs, hl, hrl, hj⟩ := hI.objs id _ h0
 rw [he] at he'; injection he' with he'; subst he'
 obtain ⟨el', hDD⟩ := hDD
 rw [hD] at hDD; injection hDD with hDD; injection hDD with hDD; subst hDD
 have hsz := hn.sz
 have hll : len * sz ≤ D0.size := Nat.le_trans (Nat.mul_le_mul_right _ hlen) hl
 have hlt : (D0.toList.take (len * sz)).length = len * sz := by simp; omega
 have h1 : ∀ k, k < len * sz → ((D0.toList.take (len * sz)).toArray ++ news.toArray ++ Z)[k]? = D0[k]? := fun k hk => by
  rw [Array.append_assoc, Array.getElem?_append_left (by rw [List.size_toArray, hlt]; exact hk), List.getElem?_toArray, List.getElem?_take, if_pos hk, Array.getElem?_toList]
 have h2 : ∀ k, k < news.length → ((D0.toList.take (len * sz)).toArray ++ news.toArray ++ Z)[len * sz + k]? = news[k]? := fun k hk => by
  rw [Array.append_assoc, Array.getElem?_append_right (by rw [List.size_toArray, hlt]; omega), List.size_toArray, hlt, show len * sz + k - len * sz = k by omega, Array.getElem?_append_left (by simpa using hk), List.getElem?_toArray]
 have hs : (len + ys.length) * sz ≤ ((D0.toList.take (len * sz)).toArray ++ news.toArray ++ Z).size := by
  rw [Array.size_append, Array.size_append, List.size_toArray, List.size_toArray, hlt, hsz, Nat.add_mul]; omega
 generalize (D0.toList.take (len * sz)).toArray ++ news.toArray ++ Z = D' at *
 have hnb := fun b (hb : b < w.heap.size) => heap_alloc_old w (.cells D' t) b hb
 have hbl := hI.tlt _ _ ht
 obtain ⟨hnl, hnc⟩ := newRows (D' := D') (gen := gen) (e := e) hlen hn hrl hj h1 h2
 have htag : ∀ b pl, (upd (upd g.tag e.blk none) w.heap.size (some (.obj id))) b = some pl → (b = w.heap.size ∧ pl = .obj id) ∨ (b ≠ w.heap.size ∧ b ≠ e.blk ∧ g.tag b = some pl) := by
  intro b pl hb
  simp only [upd] at hb
  split at hb
  ·rename_i h; injection hb with hb; exact .inl ⟨h, hb.symm⟩
  ·rename_i h
   split at hb
   ·cases hb
   ·rename_i h'; exact .inr ⟨h, h', hb⟩
 have htag' : ∀ b, b ≠ w.heap.size → b ≠ e.blk → (upd (upd g.tag e.blk none) w.heap.size (some (.obj id))) b = g.tag b := fun b k1 k2 => by simp [upd, k1, k2]
 obtain ⟨hI', hG, hμ'⟩ := hI.regen (g' := ⟨g.Φ, upd g.bs w.heap.size D'.size, g.μ.set id ⟨gen + 1, w.heap.size, sz, true⟩, upd (upd g.tag e.blk none) w.heap.size (some (.obj id))⟩) (w' := w.alloc (.cells D' t)) (blk' := w.heap.size) (D' := D') (rows := rows.take len ++ ys) (List.getElem?_eq_some_iff.1 h0).1 he heg hea rfl rfl
  (fun b pl hb hA => by
   have hlt := (hI.tlt b pl hb).2
   have hne : b ≠ e.blk := fun e' => by subst e'; rw [ht] at hb; injection hb with hb; exact hA hb.symm
   exact ⟨(htag' b (Nat.ne_of_lt hlt) hne).trans hb, upd_ne _ _ (Nat.ne_of_lt hlt), fun _ h => h, hnb b hlt⟩) (by simp [upd]) (fun o => hI.Φ_lt (Nat.le_refl _))
  ((Below.refl _ _).alloc hI.base _)
  (fun b o u hu => (World.cell?_of_block (w := w) (a := ⟨b, o, none⟩) (hnb b (World.block_lt_of_cell? w _ (hI.fz _ _ _ hu)))).trans (hI.fz _ _ _ hu))
  (fun b pl hb => by
   rcases htag b pl hb with ⟨rfl, _⟩ | ⟨_, _, h⟩
   ·exact ⟨hI.base, by simp⟩
   ·have := hI.tlt b pl h; simp; omega)
  (fun b pl hb k1 k2 => by
   rcases htag b pl hb with ⟨rfl, rfl⟩ | ⟨hne, _, h⟩
   ·exact absurd rfl (k1 id)
   ·obtain ⟨E, ⟨el', hE⟩, hEs⟩ := hI.own b pl h k1 k2
    exact ⟨E, ⟨el', (hnb b (hI.tlt b pl h).2).trans hE⟩, by show E.size = upd g.bs w.heap.size D'.size b; rw [upd_ne _ _ hne]; exact hEs⟩)
  ⟨t, heap_alloc_new w _⟩ (by simp [upd]) (by
   rw [List.length_append, List.length_take, Nat.min_eq_left hlen]; exact hs) hnl (fun id' e' _ he' => upd_ne _ _ (Nat.ne_of_lt (hI.mlt id' e' he'))) hnc
 refine ⟨_, hI', ⟨by simp, hG, fun b hb ht' => ⟨hnb b hb, ?_, upd_ne _ _ (Nat.ne_of_lt hb), fun _ => rfl⟩, loops_alloc⟩, hμ', by simp [upd]⟩
 show upd (upd g.tag e.blk none) w.heap.size (some (.obj id)) b = none
 rw [upd_ne _ _ (Nat.ne_of_lt hb)]
 by_cases hbe : b = e.blk
 ·subst hbe; simp [upd]
 ·rw [upd_ne _ _ hbe]; exact ht'
theorem Inv.undead (hI : Inv GL B0 w0 g env σ tm w) {id sz : Nat} {ys : List (List AV)} {news : List Value} {X : Value} (h0 : σ[id]? = some .dead) (hn : Src P g w sz ys X news) (t : TypeId) (Z : Array Value) :
 ∃ g', Inv GL B0 w0 g' env (σ.set id (.arr 1 sz ys)) tm (w.alloc (.cells (#[] ++ news.toArray ++ Z) t)) ∧
  Post g w g' (w.alloc (.cells (#[] ++ news.toArray ++ Z) t)) ∧ g'.μ[id]? = some ⟨1, w.heap.size, sz, true⟩ ∧ g'.bs w.heap.size = (#[] ++ news.toArray ++ Z).size := by
 obtain ⟨e, he, hea, heg, _⟩ := hI.objs id _ h0
 have hsz := hn.sz
 have h2 : ∀ k, k < news.length → (#[] ++ news.toArray ++ Z)[0 * sz + k]? = news[k]? := fun k hk => by
  rw [Nat.zero_mul, Nat.zero_add, Array.getElem?_append_left (by simpa using hk)]; simp
 have hs : ys.length * sz ≤ (#[] ++ news.toArray ++ Z).size := by
  rw [Array.size_append, Array.size_append]; simp only [List.size_toArray, hsz]; omega
 generalize #[] ++ news.toArray ++ Z = D' at *
 have hnb := fun b (hb : b < w.heap.size) => heap_alloc_old w (.cells D' t) b hb
 obtain ⟨hnl, hnc⟩ := newRows (id := id) (len := 0) (rows := []) (D := #[]) (D' := D') (gen := 0) (e := e) (Nat.le_refl _) hn (by simp) (by simp) (fun k hk => by omega) h2
 rw [List.take_nil, List.nil_append] at hnl hnc
 have htag : ∀ b pl, (upd g.tag w.heap.size (some (.obj id))) b = some pl → (b = w.heap.size ∧ pl = .obj id) ∨ (b ≠ w.heap.size ∧ g.tag b = some pl) := by
  intro b pl hb
  simp only [upd] at hb
  split at hb
  ·rename_i h; injection hb with hb; exact .inl ⟨h, hb.symm⟩
  ·rename_i h; exact .inr ⟨h, hb⟩
 obtain ⟨hI', hG, hμ'⟩ := hI.regen (gen := 0) (g' := ⟨g.Φ, upd g.bs w.heap.size D'.size, g.μ.set id ⟨0 + 1, w.heap.size, sz, true⟩, upd g.tag w.heap.size (some (.obj id))⟩) (w' := w.alloc (.cells D' t)) (blk' := w.heap.size) (D' := D') (rows := ys) (List.getElem?_eq_some_iff.1 h0).1 he heg hea rfl rfl
  (fun b pl hb hA => by
   have hlt := (hI.tlt b pl hb).2
   exact ⟨(upd_ne _ _ (Nat.ne_of_lt hlt)).trans hb, upd_ne _ _ (Nat.ne_of_lt hlt), fun _ h => h, hnb b hlt⟩) (by simp [upd]) (fun o => hI.Φ_lt (Nat.le_refl _))
  ((Below.refl _ _).alloc hI.base _)
  (fun b o u hu => (World.cell?_of_block (w := w) (a := ⟨b, o, none⟩) (hnb b (World.block_lt_of_cell? w _ (hI.fz _ _ _ hu)))).trans (hI.fz _ _ _ hu))
  (fun b pl hb => by
   rcases htag b pl hb with ⟨rfl, _⟩ | ⟨_, h⟩
   ·exact ⟨hI.base, by simp⟩
   ·have := hI.tlt b pl h; simp; omega)
  (fun b pl hb k1 k2 => by
   rcases htag b pl hb with ⟨rfl, rfl⟩ | ⟨hne, h⟩
   ·exact absurd rfl (k1 id)
   ·obtain ⟨E, ⟨el', hE⟩, hEs⟩ := hI.own b pl h k1 k2
    exact ⟨E, ⟨el', (hnb b (hI.tlt b pl h).2).trans hE⟩, by show E.size = upd g.bs w.heap.size D'.size b; rw [upd_ne _ _ hne]; exact hEs⟩)
  ⟨t, heap_alloc_new w _⟩ (by simp [upd]) hs hnl (fun id' e' _ he' => upd_ne _ _ (Nat.ne_of_lt (hI.mlt id' e' he'))) hnc
 refine ⟨_, hI', ⟨by simp, hG, fun b hb ht' => ⟨hnb b hb, (upd_ne _ _ (Nat.ne_of_lt hb)).trans ht', upd_ne _ _ (Nat.ne_of_lt hb), fun _ => rfl⟩, loops_alloc⟩, hμ', by simp [upd]⟩
end
end Go.AM
