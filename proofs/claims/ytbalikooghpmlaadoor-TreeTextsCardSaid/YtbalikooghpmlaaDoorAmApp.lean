/- A part of the abstract machine and its simulation. -/
import Derived.Test.YtbalikooghpmlaaDoorAmCore
set_option linter.unusedVariables false
set_option linter.unusedSimpArgs false
namespace Go.AM
open Go
theorem rowsOf_more {σ : List AObj} {x : AV} {r : Nat × List (List AV)} (ob : List AObj) (h : rowsOf σ x = some r) : rowsOf (σ ++ ob) x = some r := by
 unfold rowsOf at h ⊢
 split at h
 ·exact h
 ·exact h
 ·exact h
 ·exact h
 ·split at h
  ·rename_i h0
   have : (σ ++ ob)[_]? = _ := (List.getElem?_append_left (List.getElem?_eq_some_iff.1 h0).1).trans h0
   rw [this]; exact h
  ·cases h
 ·cases h
theorem prowsOf_more {σ : List AObj} {x : AV} {r : Nat × List (List AV)} (ob : List AObj) (h : rowsOf σ x = some r) : prowsOf (σ ++ ob) x = prowsOf σ x := by
 unfold rowsOf at h
 unfold prowsOf
 split at h
 ·rfl
 ·rfl
 ·rfl
 ·rfl
 ·split at h
  ·rename_i h0
   have : (σ ++ ob)[_]? = _ := (List.getElem?_append_left (List.getElem?_eq_some_iff.1 h0).1).trans h0
   simp only [this, h0]
  ·cases h
 ·cases h
theorem appendRows_some {size bytes : Nat} {nl : Bool} {sz : Nat} {rows : List (List PV)} {σ : List AObj} {x v : AV} (h : appendRows size bytes nl sz rows (prowsOf σ x) (rowsOf σ x) = some v) : ∃ r, rowsOf σ x = some r := by
 cases hr : rowsOf σ x with
 | some r => exact ⟨r, rfl⟩
 | none =>
  exfalso
  have : prowsOf σ x = none := by
   cases x with
   | p v =>
    cases v with
    | lit u => cases u <;> first | rfl | (simp [rowsOf] at hr; done)
    | sl nl z rs => simp [rowsOf] at hr
    | _ => rfl
   | own z rs => simp [rowsOf] at hr
   | ms id g z off len =>
    simp only [rowsOf] at hr
    simp only [prowsOf]
    cases h0 : σ[id]? with
    | none => rfl
    | some ob =>
     rw [h0] at hr
     cases ob with
     | arr g' z' rs =>
      dsimp only at hr ⊢
      split at hr
      ·cases hr
      ·rename_i hc; rw [if_neg hc]
     | _ => rfl
   | _ => rfl
  rw [this, hr] at h
  cases h
theorem append_more {base size bytes : Nat} {σ σ' : List AObj} {a x v : AV} (ob : List AObj) (h : appendV base σ false size bytes a x = some (v, σ')) : appendV base (σ ++ ob) false size bytes a x = some (v, σ ++ ob) ∧ σ' = σ := by
 unfold appendV at h ⊢
 split at h
 ·rw [if_neg (by simp)] at h ⊢
  split at h
  ·rename_i v' hv
   injection h with h; injection h with h1 h2; subst h1; subst h2
   obtain ⟨r, hr⟩ := appendRows_some hv
   rw [prowsOf_more ob hr, rowsOf_more ob hr]
   rw [hr] at hv
   rw [hv]; exact ⟨rfl, rfl⟩
  ·cases h
 ·split at h
  ·rename_i v' hv
   injection h with h; injection h with h1 h2; subst h1; subst h2
   obtain ⟨r, hr⟩ := appendRows_some hv
   rw [prowsOf_more ob hr, rowsOf_more ob hr]
   rw [hr] at hv
   rw [hv]; exact ⟨rfl, rfl⟩
  ·cases h
 ·split at h
  ·rename_i sz' ys hys
   rw [rowsOf_more ob hys]
   dsimp only
   split at h
   ·rename_i hc
    injection h with h; injection h with h1 h2; subst h1; subst h2
    rw [if_pos hc]; exact ⟨rfl, rfl⟩
   ·cases h
  ·cases h
 ·rw [if_pos rfl] at h; cases h
 ·rw [if_pos rfl] at h; cases h
 ·cases h
theorem append_ap {h : FH} {d base size bytes : Nat} {σ σ' : List AObj} {a x v : AV} (hap : appendV base (if apB h d = true then [] else σ) (h.nw.contains d) size bytes a x = some (v, σ')) :
 appendV base σ (h.nw.contains d) size bytes a x = some (v, if apB h d = true then σ else σ') := by
 by_cases hd : apB h d = true
 ·rw [if_pos hd] at hap ⊢
  have hn : h.nw.contains d = false := by
   unfold apB at hd
   simp only [Bool.and_eq_true, Bool.not_eq_true'] at hd
   exact hd.2
  rw [hn] at hap ⊢
  obtain ⟨h1, _⟩ := append_more σ hap
  rw [List.nil_append] at h1
  exact h1
 ·rw [if_neg hd] at hap ⊢
  exact hap
end Go.AM
