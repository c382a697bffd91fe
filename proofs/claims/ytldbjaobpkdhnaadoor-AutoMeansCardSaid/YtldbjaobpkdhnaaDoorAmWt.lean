/- A part of the abstract machine and its simulation (AmWt). -/
import Derived.Test.YtldbjaobpkdhnaaDoorAmEntry
import Derived.Test.YtldbjaobpkdhnaaDoorAmVal
set_option linter.unusedVariables false
set_option linter.unusedSimpArgs false
namespace Go.AM
open Go

section
variable {T : Tab}
theorem wt_int {n : Nat} {t : TypeId} {cs : List PV} (hd : (T.at t).d = .int .i64) (h : wt T n t cs) : ∃ i, cs = [iv i] ∧ In64 i := by
  cases n with
  | zero => exact h.elim
  | succ n =>
    unfold wt at h
    rw [hd] at h
    obtain ⟨i, rfl, h1, h2⟩ := h
    refine ⟨i, rfl, ?_⟩
    have e1 : IntKind.i64.min = -9223372036854775808 := by decide
    have e2 : IntKind.i64.max = 9223372036854775807 := by decide
    rw [e1] at h1; rw [e2] at h2
    exact ⟨h1, h2⟩
theorem wt_sl {n : Nat} {t e : TypeId} {cs : List PV} (hd : (T.at t).d = .sl e) (h : wt T n t cs) : ∃ m nl sz rows, n = m + 1 ∧ cs = [.sl nl sz rows] ∧ (rows ≠ [] → sz = (T.at e).size) ∧ rows.length ≤ maxLen ∧ ∀ r, r ∈ rows → wt T m e r := by
  cases n with
  | zero => exact h.elim
  | succ n =>
    unfold wt at h
    rw [hd] at h
    rcases h with rfl | ⟨rows, rfl, h1, h2⟩
    · exact ⟨n, true, 0, [], rfl, rfl, fun h => absurd rfl h, by simp, by simp⟩
    · exact ⟨n, false, _, rows, rfl, rfl, fun _ => rfl, h1, h2⟩
theorem wt_st {n : Nat} {t : TypeId} {fs : List (Nat × TypeId)} {cs : List PV} (hd : (T.at t).d = .st fs) (h : wt T n t cs) : ∃ m, n = m + 1 ∧ cs.length = (T.at t).size ∧ ∀ f, f ∈ fs → wt T m f.2 ((cs.drop f.1).take (T.at f.2).size) := by
  cases n with
  | zero => exact h.elim
  | succ n =>
    unfold wt at h
    rw [hd] at h
    exact ⟨n, rfl, h⟩
theorem rows_map {α : Type} {row : α → List PV} {P : α → Prop} : ∀ {rows : List (List PV)}, (∀ r, r ∈ rows → ∃ x, r = row x ∧ P x) → ∃ xs : List α, rows = xs.map row ∧ ∀ x, x ∈ xs → P x
  | [], _ => ⟨[], rfl, by simp⟩
  | r :: rows, h => by
    obtain ⟨x, rfl, hx⟩ := h r (by simp)
    obtain ⟨xs, rfl, hxs⟩ := rows_map (rows := rows) (fun r' h' => h r' (List.mem_cons_of_mem _ h'))
    exact ⟨x :: xs, rfl, fun y hy => by
      rcases List.mem_cons.1 hy with rfl | hy
      · exact hx
      · exact hxs y hy⟩
/-- a slice of ints -/
theorem wt_slI {n : Nat} {t e : TypeId} {cs : List PV} (hd : (T.at t).d = .sl e) (he : (T.at e).d = .int .i64) (hs : (T.at e).size = 1) (h : wt T n t cs) : ∃ s : Sl Int, cs = [slP rowI s] ∧ Sl.ok 1 s ∧ s.xs.length < 9223372036854775808 ∧ ∀ x, x ∈ s.xs → In64 x := by
  obtain ⟨m, nl, sz, rows, _, rfl, h1, h2, h3⟩ := wt_sl hd h
  obtain ⟨xs, rfl, hx⟩ := rows_map (row := rowI) (P := In64) (fun r hr => wt_int he (h3 r hr))
  refine ⟨⟨nl, sz, xs⟩, rfl, fun hne => ?_, ?_, hx⟩
  · rw [hs] at h1
    exact h1 (by simpa using hne)
  · have : maxLen < 9223372036854775808 := by decide
    simp at h2
    exact Nat.lt_of_le_of_lt h2 this
end
end Go.AM
