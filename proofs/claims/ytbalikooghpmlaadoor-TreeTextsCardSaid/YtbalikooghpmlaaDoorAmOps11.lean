/- A part of the abstract machine and its simulation. -/
import Derived.Test.YtbalikooghpmlaaDoorAmOps10
set_option linter.unusedVariables false
set_option linter.unusedSimpArgs false
namespace Go.AM
open Go Go.RowKit
theorem RelAR.append {g : G} {sz b : Nat} {rs ys : List (List AV)} {o : Nat} (h : RelAR g sz rs b o) (k : RelAR g sz ys b (o + rs.length * sz)) : RelAR g sz (rs ++ ys) b o := by
 refine RelAR.mk fun i r hi => ?_
 by_cases hlt : i < rs.length
 ·rw [List.getElem?_append_left hlt] at hi
  exact h.get i r hi
 ·rw [List.getElem?_append_right (by omega)] at hi
  have := k.get _ r hi
  rwa [show o + rs.length * sz + (i - rs.length) * sz = o + i * sz by
   rw [Nat.add_assoc, ← Nat.add_mul, show rs.length + (i - rs.length) = i by omega]] at this
theorem RowsAt.append {g : G} {sz : Nat} {rs ys : List (List AV)} {A B Z : Array Value} (h : RowsAt g sz rs A) (hA : A.size = rs.length * sz) (k : RowsAt g sz ys B) : RowsAt g sz (rs ++ ys) (A ++ B ++ Z) := by
 refine ⟨?_, fun i r hi => ?_⟩
 ·have := k.1
  simp only [List.length_append, Array.size_append, Nat.add_mul]; omega
 ·by_cases hlt : i < rs.length
  ·rw [List.getElem?_append_left hlt] at hi
   obtain ⟨h1, h2⟩ := h.2 i r hi
   refine ⟨h1, fun j c hj => ?_⟩
   obtain ⟨u, hu, o1, rr⟩ := h2 j c hj
   have hl := (Array.getElem?_eq_some_iff.1 hu).1
   refine ⟨u, ?_, o1, rr⟩
   rw [Array.append_assoc, Array.getElem?_append_left hl]; exact hu
  ·rw [List.getElem?_append_right (by omega)] at hi
   obtain ⟨h1, h2⟩ := k.2 _ r hi
   refine ⟨h1, fun j c hj => ?_⟩
   obtain ⟨u, hu, o1, rr⟩ := h2 j c hj
   have hl := (Array.getElem?_eq_some_iff.1 hu).1
   refine ⟨u, ?_, o1, rr⟩
   have e : i * sz + j = A.size + ((i - rs.length) * sz + j) := by
    rw [hA, ← Nat.add_assoc, ← Nat.add_mul, show rs.length + (i - rs.length) = i by omega]
   rw [e, Array.append_assoc, Array.getElem?_append_right (by omega), show A.size + ((i - rs.length) * sz + j) - A.size = (i - rs.length) * sz + j by omega, Array.getElem?_append_left hl]
   exact hu
section
variable {GL : List (Nat × List PV)} {B0 : Nat} {w0 : World} {g : G} {env : Env} {σ : List AObj} {s : S} {tm : Array Value} {w : World} {ty : List TI} {P : Program} {H : FuncId → FH} {C : CallF} {h : FH} {base : Nat}
theorem strip_get_other {env : Env} {x t : Nat} (h : t ≠ x) : get (strip env (.tmp x)) t = get env t := by rw [get_strip, if_neg h]
theorem Inv.push {V' : Value} (hI : Inv GL B0 w0 g env σ tm w) {x d sz cap n : Nat} {rows ys : List (List AV)} {news : List Value} {ad : Addr} (hx : RelA g (fun b => g.tag b = some (.slot x)) (.asl true sz rows) (.slice (some ad) n cap))
 (hxe : ∃ v, get env x = v ∧ owns v = true) (hn : Src P g w sz ys V' news) (hroom : n + ys.length ≤ cap) (hpos : 0 < ys.length) (hd : d < tm.size) :
 ∃ b D el, ad = ⟨b, 0, none⟩ ∧ w.heap[b]? = some (.cells D el (0, 0)) ∧ n * sz + news.length ≤ D.size ∧
  ∃ g', Inv GL B0 w0 g' ((d, .asl true sz (rows ++ ys)) :: strip env (.tmp x)) σ (putT tm (some d) (.slice (some ad) (n + ys.length) cap)) (w.setRow b (D.toList.take (n * sz) ++ news ++ D.toList.drop (n * sz + news.length)).toArray) ∧
   Post g w g' (w.setRow b (D.toList.take (n * sz) ++ news ++ D.toList.drop (n * sz + news.length)).toArray) := by
 have hx0 := hx
 unfold RelA at hx
 obtain ⟨ad', cap', eV, hl, es, hk0, ho⟩ := hx.resolve_left (fun ⟨h, _⟩ => by cases h)
 injection eV with e1 e2 e3
 injection e1 with e1; subst e1; subst e3; subst e2
 obtain ⟨o1, o2, o3, o4⟩ := ho rfl (by omega)
 obtain ⟨b, off, sp⟩ := ad
 simp only at es o2; obtain rfl : sp = none := es (by omega); subst o2
 simp only at o1 o3 o4 hk0
 obtain ⟨D, ⟨el, hD⟩, hDs⟩ := hI.own b _ o1 (fun id => by simp) (by simp)
 have hsz := hn.sz
 have hfit : rows.length * sz + news.length ≤ D.size := by
  have h1 : (rows.length + ys.length) * sz ≤ cap * sz := Nat.mul_le_mul_right _ hroom
  rw [Nat.add_mul] at h1; omega
 have hbl := hI.tlt _ _ o1
 refine ⟨b, D, el, rfl, hD, hfit, ?_⟩
 have hother : ∀ b', b' ≠ b → (w.setRow b (D.toList.take (rows.length * sz) ++ news ++ D.toList.drop (rows.length * sz + news.length)).toArray).heap[b']? = w.heap[b']? := fun b' hb => setRow_other w b b' _ hb
 have hself : (w.setRow b (D.toList.take (rows.length * sz) ++ news ++ D.toList.drop (rows.length * sz + news.length)).toArray).heap[b]? = some (.cells (D.toList.take (rows.length * sz) ++ news ++ D.toList.drop (rows.length * sz + news.length)).toArray el (0, 0)) := setRow_heap w b D _ el (0, 0) hD
 have hget : ∀ j, (D.toList.take (rows.length * sz) ++ news ++ D.toList.drop (rows.length * sz + news.length)).toArray[j]? = if j < rows.length * sz then D[j]? else if j < rows.length * sz + news.length then news[j - rows.length * sz]? else D[j]? := fun j => by
  rw [List.getElem?_toArray]; exact laid_get D (rows.length * sz) news hfit j
 have hsize : (D.toList.take (rows.length * sz) ++ news ++ D.toList.drop (rows.length * sz + news.length)).toArray.size = D.size := by simp; omega
 generalize (D.toList.take (rows.length * sz) ++ news ++ D.toList.drop (rows.length * sz + news.length)).toArray = D' at *
 have hbel : (w.setRow b D').os = w.os ∧ (w.setRow b D').tape = w.tape ∧ (w.setRow b D').output = w.output := ⟨rfl, rfl, rfl⟩
 have hheap : (w.setRow b D').heap.size = w.heap.size := by simp
 have hlp := loops_row (D := D') hD
 generalize w.setRow b D' = w' at *
 let Φ' : Mem := fun b' o => if b' = b ∧ rows.length * sz ≤ o ∧ o < rows.length * sz + news.length then D'[o]? else g.Φ b' o
 let g' : G := ⟨Φ', g.bs, g.μ, (g.retag (rt x d)).tag⟩
 have hΦle : MemLe g.Φ Φ' := fun b' o u hu => by
  simp only [Φ']
  split
  ·rename_i hc
   obtain ⟨rfl, hc1, _⟩ := hc
   rw [o4 o hc1] at hu; cases hu
  ·exact hu
 have hG : Gle g g' := ⟨hΦle, fun id e he => ⟨e, he, rfl, Nat.le_refl _, fun _ => ⟨rfl, rfl, fun _ => rfl⟩, fun _ => rfl⟩⟩
 have hK : KeepPl g g' w w' (fun p => p ≠ .slot x ∧ rt x d p = p) := fun b' pl hb hA => by
  have hne : b' ≠ b := by intro e; subst e; rw [o1] at hb; injection hb with hb; exact hA.1 hb.symm
  refine ⟨?_, rfl, fun o ho => ?_, hother b' hne⟩
  ·show (g.tag b').map (rt x d) = some pl
   rw [hb]; simp [hA.2]
  ·simp only [g', Φ']
   rw [if_neg (fun hc => hne hc.1)]; exact ho
 have hcellΦ : ∀ k, k < news.length → Φ' b (rows.length * sz + k) = news[k]? := fun k hk => by
  simp only [Φ']
  rw [if_pos ⟨trivial, by omega, by omega⟩, hget, if_neg (by omega), if_pos (by omega), show rows.length * sz + k - rows.length * sz = k by omega]
 refine ⟨g', ⟨?_, ?_, fun b' o u hu => ?_, fun b' pl hb => ?_, fun b' pl hb h1 h2 => ?_, fun t => ?_, fun id ob hob => ?_, hI.len, fun k cs hk => (hI.glob k cs hk).mono hΦle _ _ _, fun id e he => by rw [hheap]; exact hI.mlt id e he⟩, ?_⟩
 ·exact hI.below.trans ⟨hbel.1, hbel.2.1, hbel.2.2, by omega, fun k hk => hother k (by omega)⟩
 ·rw [hheap]; exact hI.base
 ·simp only [g', Φ'] at hu
  split at hu
  ·rename_i hc
   obtain ⟨rfl, hc1, hc2⟩ := hc
   rw [cell_of_row _ b' o D' el (0, 0) hself]; exact hu
  ·rename_i hc
   by_cases hbb : b' = b
   ·subst hbb
    have hlt : o < rows.length * sz := by
     rcases Nat.lt_or_ge o (rows.length * sz) with h | h
     ·exact h
     ·rw [o4 o h] at hu; cases hu
    have := hI.fz _ _ _ hu
    rw [cell_of_row _ b' o D el (0, 0) hD] at this
    rw [cell_of_row _ b' o D' el (0, 0) hself, hget, if_pos hlt]; exact this
   ·exact (World.cell?_of_block (w := w) (a := ⟨b', o, none⟩) (hother b' hbb)).trans (hI.fz _ _ _ hu)
 ·rw [hheap]
  simp only [g', G.retag, Option.map_eq_some_iff] at hb
  obtain ⟨p, hp, _⟩ := hb
  exact hI.tlt b' p hp
 ·simp only [g', G.retag, Option.map_eq_some_iff] at hb
  obtain ⟨p, hp, rfl⟩ := hb
  obtain ⟨E, ⟨el', hE⟩, hEs⟩ := hI.own b' p hp (fun id e => by subst e; exact h1 id rfl) (fun e => by subst e; exact h2 rfl)
  by_cases hbb : b' = b
  ·subst hbb
   rw [hD] at hE; injection hE with hE; injection hE with hE
   subst hE
   exact ⟨D', ⟨el, hself⟩, by rw [hsize]; exact hEs⟩
  ·exact ⟨E, ⟨el', (hother b' hbb).trans hE⟩, hEs⟩
 ·rw [putT_get hd]
  by_cases e : d = t
  ·subst e
   simp only [if_true, get, beq_self_eq_true]
   show RelA g' (fun b => g'.tag b = some (.slot d)) (.asl true sz (rows ++ ys)) _
   unfold RelA
   refine .inr ⟨⟨b, 0, none⟩, cap, by simp, by simpa using hroom, fun _ => rfl, ?_, fun _ hlt => ?_⟩
   ·refine RelAR.append (RelAR.mono hG sz _ _ _ hk0) (RelAR.mk fun i r hi => ?_)
    obtain ⟨h1, h2⟩ := hn.at_.2 i r hi
    refine ⟨h1, RelAC.mk fun j c hj => ?_⟩
    obtain ⟨u, hu, o1', rr⟩ := h2 j c hj
    rw [List.getElem?_toArray] at hu
    refine ⟨u, ?_, o1', rr.mono hG _ _ _ _ Keeps.none⟩
    show Φ' b (0 + rows.length * sz + i * sz + j) = some u
    rw [Nat.zero_add, Nat.add_assoc, hcellΦ _ (List.getElem?_eq_some_iff.1 hu).1]; exact hu
   ·simp only [List.length_append] at hlt ⊢
    refine ⟨?_, trivial, o3, fun o ho => ?_⟩
    ·show (g.tag b).map (rt x d) = some (.slot d)
     rw [o1]; simp [rt]
    ·show Φ' b o = none
     simp only [Φ']
     rw [Nat.add_mul] at ho
     rw [if_neg (by omega)]; exact o4 o (by omega)
  ·rw [if_neg e]
   simp only [get, beq_iff_eq, e, if_false]
   by_cases ex : t = x
   ·subst ex
    obtain ⟨v, hv, hov⟩ := hxe
    rw [get_strip, if_pos rfl]
    have hcp := RelX.copy (x := .tmp t) (hI.env t)
    rw [hv] at hcp ⊢
    cases v with
    | own sz' r' => exact RelS.of_A (hcp.mono hG _ _ _ _ Keeps.none)
    | asl ow sz' r' => exact RelS.of_A (hcp.mono hG _ _ _ _ Keeps.none)
    | _ => cases hov
   ·rw [strip_get_other ex]
    exact (hI.env t).keep hG hK ⟨by simpa using ex, by simp [rt, ex]⟩ (fun i => ⟨by simp, by simp [rt, ex]⟩)
 ·exact (hI.objs id ob hob).keep hG hK ⟨by simp, rfl⟩ (fun _ => ⟨by simp, rfl⟩) (fun _ _ => ⟨by simp, rfl⟩) (fun e he _ => he)
 ·refine ⟨by omega, hG, fun b' hb ht => ⟨hother b' (fun e => by subst e; rw [o1] at ht; cases ht), ?_, rfl, fun o => ?_⟩, hlp⟩
  ·show (g.tag b').map (rt x d) = none
   rw [ht]; rfl
  ·show Φ' b' o = _
   simp only [Φ']
   rw [if_neg (fun hc => by rw [hc.1] at ht; rw [o1] at ht; cases ht)]
end
end Go.AM
