/- A part of the abstract machine and its simulation (AmVal). -/
import Derived.Test.YtldbjaobpkdhnaaDoorAmData
set_option linter.unusedVariables false
set_option linter.unusedSimpArgs false
namespace Go.AM
open Go

/-- an int, a bool, as values -/
abbrev iv (n : Int) : PV := .lit (.int .i64 n)
abbrev bv (b : Bool) : PV := .lit (.bool b)
/-- a slice with its elements -/
structure Sl (α : Type) where
  nl : Bool
  sz : Nat
  xs : List α
def Sl.ok {α : Type} (n : Nat) (s : Sl α) : Prop := s.xs ≠ [] → s.sz = n
def slP {α : Type} (row : α → List PV) (s : Sl α) : PV := .sl s.nl s.sz (s.xs.map row)
def rowI (n : Int) : List PV := [iv n]
def rowB (b : Bool) : List PV := [bv b]
def In64 (n : Int) : Prop := -9223372036854775808 ≤ n ∧ n ≤ 9223372036854775807

theorem map_get {α β : Type} (f : α → β) (xs : List α) (i : Nat) : (xs.map f)[i]? = (xs[i]?).map f := List.getElem?_map ..
theorem wrapN {n : Int} (h : -9223372036854775808 ≤ n) (h2 : n ≤ 9223372036854775807) : IntKind.i64.wrap n = n := by rw [wrap_id] <;> omega
theorem drop_get {α : Type} {xs : List α} {i : Nat} {x : α} (h : xs[i]? = some x) : xs.drop i = x :: xs.drop (i + 1) := drop_cons h

theorem bnd_ok {n b : Nat} (h : 0 < b) (h2 : n * b ≤ 70368744177664) : boundOk n b = true := decide_eq_true ⟨h, h2⟩
/-- a value that is a slice of ints -/
def IsI (v : AV) (xs : List Int) : Prop := ∃ nl sz, (xs ≠ [] → sz = 1) ∧ (v = .p (.sl nl sz (xs.map rowI)) ∨ (v = .own sz (xs.map rowI) ∧ nl = false))
theorem IsI.copy {v : AV} {xs : List Int} (h : IsI v xs) : ∃ nl sz, (xs ≠ [] → sz = 1) ∧ copyA v = .p (.sl nl sz (xs.map rowI)) ∧ copyV v = .p (.sl nl sz (xs.map rowI)) ∧ (∀ n, ltV n v = true) ∧ storable v = true ∧ cellsOf v = [v] := by
  obtain ⟨nl, sz, h1, h2⟩ := h
  refine ⟨nl, sz, h1, ?_⟩
  rcases h2 with rfl | ⟨rfl, rfl⟩
  · exact ⟨rfl, rfl, fun _ => rfl, rfl, rfl⟩
  · exact ⟨rfl, rfl, fun _ => rfl, rfl, rfl⟩
theorem IsI.nil : IsI (.p (.sl true 0 [])) [] := ⟨true, 0, fun h => absurd rfl h, .inl rfl⟩
section
variable {σ l : List AObj} {n k i : Nat} {x : AObj}
theorem sA0 (h : σ.length = n) : (σ ++ l)[n]? = l[0]? := by subst h; rw [List.getElem?_append_right (Nat.le_refl _), Nat.sub_self]
theorem sAK (h : σ.length = n) : (σ ++ l)[n + k]? = l[k]? := by subst h; rw [List.getElem?_append_right (by omega)]; congr 1; omega
theorem sAL (h : i < σ.length) : (σ ++ l)[i]? = σ[i]? := List.getElem?_append_left h
theorem sS0 (h : σ.length = n) : (σ ++ l).set n x = σ ++ l.set 0 x := by subst h; rw [List.set_append_right _ _ (Nat.le_refl _), Nat.sub_self]
theorem sSK (h : σ.length = n) : (σ ++ l).set (n + k) x = σ ++ l.set k x := by subst h; rw [List.set_append_right _ _ (by omega)]; congr 2; omega
theorem sSL (h : i < σ.length) : (σ ++ l).set i x = σ.set i x ++ l := List.set_append_left _ _ h
theorem sT0 (h : σ.length = n) : (σ ++ l).take n = σ := by subst h; simp
theorem sTK (h : σ.length = n) : (σ ++ l).take (n + k) = σ ++ l.take k := by subst h; rw [List.take_append, List.take_of_length_le (by omega)]; congr 2; omega
theorem sTX (h : σ.length = n) : σ.take n = σ := by subst h; simp
theorem ltK (a k : Nat) : (a < a + (k + 1)) = True := eq_true (by omega)
end

def aB (bs : List Bool) : List (List AV) := bs.map fun b => [.p (bv b)]
theorem aB_len (bs : List Bool) : (aB bs).length = bs.length := by simp [aB]
theorem aB_get {bs : List Bool} {k : Nat} {b : Bool} (h : bs[k]? = some b) : (aB bs)[k]? = some [.p (bv b)] := by unfold aB; rw [List.getElem?_map, h]; rfl
theorem aB_set (bs : List Bool) (k : Nat) (b : Bool) : (aB bs).set k [.p (bv b)] = aB (bs.set k b) := by unfold aB; rw [List.map_set]
theorem aB_rep (n : Nat) : List.replicate n [AV.p (bv false)] = aB (List.replicate n false) := by unfold aB; rw [List.map_replicate]
theorem aB_pur (base : Nat) (σ : List AObj) (k : Nat) : ∀ bs : List Bool, (aB bs).mapM (fun r => r.mapM (pur base σ (k + 1))) = some (bs.map rowB)
  | [] => rfl
  | b :: bs => by
    have := aB_pur base σ k bs
    show ([AV.p (bv b)] :: aB bs).mapM _ = _
    rw [List.mapM_cons, this]
    rfl
theorem pur_p (base : Nat) (σ : List AObj) (k : Nat) (v : PV) : pur base σ (k + 1) (.p v) = some v := rfl
theorem pur_own (base : Nat) (σ : List AObj) (k sz : Nat) (r : List (List PV)) : pur base σ (k + 1) (.own sz r) = some (.sl false sz r) := rfl
theorem pur_ms {base : Nat} {σ : List AObj} {k id g z off n sz : Nat} {rows : List (List AV)} {l : List (List PV)} (h1 : base ≤ id) (h2 : σ[id]? = some (.arr g sz rows)) (h3 : off + n ≤ rows.length) (h4 : ((rows.drop off).take n).mapM (fun r => r.mapM (pur base σ k)) = some l) : pur base σ (k + 1) (.ms id g z off n) = some (.sl false sz l) := by
  unfold pur
  dsimp only
  rw [if_pos h1, h2]
  simp only [beq_self_eq_true, Bool.true_and, decide_eq_true h3, if_true]
  rw [h4]
theorem pur_msB {base : Nat} {σ : List AObj} {k id g z n : Nat} {bs : List Bool} (h1 : base ≤ id) (h2 : σ[id]? = some (.arr g 1 (aB bs))) (h3 : bs.length = n) : pur base σ (k + 2) (.ms id g z 0 n) = some (.sl false 1 (bs.map rowB)) := by
  refine pur_ms h1 h2 (by rw [aB_len]; omega) ?_
  rw [List.drop_zero, List.take_of_length_le (by rw [aB_len]; omega)]
  exact aB_pur base σ k bs
/-- ranked trees -/
inductive Tr where
  | mk (sym : Int) (nl : Bool) (sz : Nat) (kids : List Tr)
def Tr.sym : Tr → Int | .mk s _ _ _ => s
def Tr.kids : Tr → List Tr | .mk _ _ _ ks => ks
mutual
def rowT : Tr → List PV
  | .mk s nl sz ks => [iv s, .sl nl sz (rowsT ks)]
def rowsT : List Tr → List (List PV)
  | [] => []
  | k :: r => rowT k :: rowsT r
end
theorem rowsT_map : ∀ l : List Tr, rowsT l = l.map rowT
  | [] => rfl
  | k :: r => by rw [rowsT, rowsT_map r]; rfl
theorem rowT_mk (s : Int) (nl : Bool) (sz : Nat) (ks : List Tr) : rowT (.mk s nl sz ks) = [iv s, .sl nl sz (ks.map rowT)] := by rw [rowT, rowsT_map]
mutual
def Tr.ok : Tr → Prop
  | .mk s _ sz ks => In64 s ∧ (ks ≠ [] → sz = 2) ∧ ks.length < 9223372036854775808 ∧ oksT ks
def oksT : List Tr → Prop
  | [] => True
  | k :: r => Tr.ok k ∧ oksT r
end
theorem oksT_iff : ∀ l : List Tr, oksT l ↔ ∀ k, k ∈ l → Tr.ok k
  | [] => by simp [oksT]
  | k :: r => by simp [oksT, oksT_iff r]
theorem Tr.ok_mk {s : Int} {nl : Bool} {sz : Nat} {ks : List Tr} : Tr.ok (.mk s nl sz ks) ↔ In64 s ∧ (ks ≠ [] → sz = 2) ∧ ks.length < 9223372036854775808 ∧ ∀ k, k ∈ ks → Tr.ok k := by
  rw [Tr.ok, oksT_iff]
mutual
def Tr.size : Tr → Nat
  | .mk _ _ _ ks => 1 + sizesT ks
def sizesT : List Tr → Nat
  | [] => 0
  | k :: r => Tr.size k + sizesT r
end
theorem Tr.size_mk (s : Int) (nl : Bool) (sz : Nat) (ks : List Tr) : Tr.size (.mk s nl sz ks) = 1 + sizesT ks := by rw [Tr.size]
theorem size_mem : ∀ {l : List Tr} {k : Tr}, k ∈ l → k.size ≤ sizesT l
  | a :: r, k, h => by
    rw [sizesT]
    rcases List.mem_cons.1 h with rfl | h
    · omega
    · have := size_mem h; omega
theorem Tr.ind {p : Tr → Prop} (h : ∀ s nl sz ks, (∀ k, k ∈ ks → p k) → p (.mk s nl sz ks)) : ∀ t, p t := by
  have : ∀ n t, Tr.size t ≤ n → p t := by
    intro n
    induction n with
    | zero => intro t ht; cases t; rw [Tr.size_mk] at ht; omega
    | succ n ih =>
      intro t ht
      obtain ⟨s, nl, sz, ks⟩ := t
      rw [Tr.size_mk] at ht
      exact h s nl sz ks (fun k hk => ih k (by have := size_mem hk; omega))
  exact fun t => this _ t (Nat.le_refl _)

/-- rules, automata, alphabets -/
structure Rule where
  sym : Int
  from_ : Sl Int
  to : Int
def rowR (r : Rule) : List PV := [iv r.sym, slP rowI r.from_, iv r.to]
def Rule.ok (r : Rule) : Prop := In64 r.sym ∧ In64 r.to ∧ Sl.ok 1 r.from_ ∧ r.from_.xs.length < 9223372036854775808 ∧ ∀ x, x ∈ r.from_.xs → In64 x
structure Au where
  states : Int
  final : Sl Int
  rules : Sl Rule
def rowA (a : Au) : List PV := [iv a.states, slP rowI a.final, slP rowR a.rules]
def Au.ok (a : Au) : Prop := In64 a.states ∧ Sl.ok 1 a.final ∧ a.final.xs.length < 9223372036854775808 ∧ (∀ x, x ∈ a.final.xs → In64 x) ∧ Sl.ok 3 a.rules ∧ a.rules.xs.length < 9223372036854775808 ∧ ∀ r, r ∈ a.rules.xs → r.ok
structure Al where
  ranks : Sl Int
def rowAl (a : Al) : List PV := [slP rowI a.ranks]
def Al.ok (a : Al) : Prop := Sl.ok 1 a.ranks ∧ a.ranks.xs.length < 9223372036854775808 ∧ ∀ x, x ∈ a.ranks.xs → In64 x
end Go.AM
