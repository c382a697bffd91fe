/- Rules for pure functions: loops, lists, strings, memory of the abstract machine. -/
import Derived.MapKept
import Derived.Test.YtbalikooghpmlaaDoorAmVal
set_option linter.unusedVariables false
set_option linter.unusedSimpArgs false
namespace Go.AM
open Go
abbrev Str := List UInt8
def bs (s : Str) : ByteArray := ⟨s.toArray⟩
abbrev w64 (n : Int) : Int := IntKind.i64.wrap n
def Sat {α : Type} (A : Option α) (Q : α → Prop) : Prop := ∃ x, A = some x ∧ Q x
theorem Sat.ok {α : Type} {x : α} {Q : α → Prop} (h : Q x) : Sat (some x) Q := ⟨x, rfl, h⟩
theorem Sat.fn {α : Type} {A : Option α} {y : α} (h : ∀ Q : α → Prop, Q y → Sat A Q) : A = some y := by
 obtain ⟨x, h1, h2⟩ := h (fun x => x = y) rfl
 rw [h1, h2]
theorem ob {α β : Type} {o : Option α} {f : α → Option β} {r : β} (h : o.bind f = some r) : ∃ x, o = some x ∧ f x = some r := Option.bind_eq_some_iff.1 h
theorem iteT {α : Type} {c : Prop} [Decidable c] {a b r : α} (h : (if c then a else b) = r) (hc : c) : a = r := by rw [if_pos hc] at h; exact h
theorem iteF {α : Type} {c : Prop} [Decidable c] {a b r : α} (h : (if c then a else b) = r) (hc : ¬ c) : b = r := by rw [if_neg hc] at h; exact h
def idx {α : Type} (xs : List α) (i : Int) : Option α := if 0 ≤ i then xs[i.toNat]? else none
theorem idx_some {α : Type} {xs : List α} {i : Int} {x : α} (h : idx xs i = some x) : 0 ≤ i ∧ xs[i.toNat]? = some x := by
 unfold idx at h
 split at h
 ·exact ⟨‹_›, h⟩
 ·cases h
def slc {α : Type} (xs : List α) (lo hi : Int) : Option (List α) := if 0 ≤ lo ∧ lo ≤ hi ∧ hi ≤ xs.length then some ((xs.take hi.toNat).drop lo.toNat) else none
theorem slc_some {α : Type} {xs ys : List α} {lo hi : Int} (h : slc xs lo hi = some ys) : 0 ≤ lo ∧ 0 ≤ hi ∧ lo.toNat ≤ hi.toNat ∧ hi.toNat ≤ xs.length ∧ ys = (xs.take hi.toNat).drop lo.toNat := by
 unfold slc at h
 split at h
 ·injection h with h; exact ⟨by omega, by omega, by omega, by omega, h.symm⟩
 ·cases h
def app {α : Type} (bytes : Nat) (xs ys : List α) : Option (List α) := if (xs.length + ys.length) * bytes ≤ 70368744177664 then some (xs ++ ys) else none
theorem app_some {α : Type} {b : Nat} {xs ys zs : List α} (h : app b xs ys = some zs) : (xs.length + ys.length) * b ≤ 70368744177664 ∧ zs = xs ++ ys := by
 unfold app at h
 split at h
 ·injection h with h; exact ⟨‹_›, h.symm⟩
 ·cases h
def rangeC {α S R : Type} (body : Nat → α → S → (S → Option R) → Option R) : List α → Nat → S → (S → Option R) → Option R
 | [], _, s, k => k s
 | x :: xs, i, s, k => body i x s (fun s' => rangeC body xs (i + 1) s' k)
def rangeL {α S R : Type} (xs : List α) (s : S) (body : (S → Option R) → Nat → α → S → (S → Option R) → Option R) (k : S → Option R) : Option R :=
 if xs.length < 9223372036854775808 then rangeC (body k) xs 0 s k else none
def rangeI {S R : Type} (n : Int) (s : S) (body : (S → Option R) → Nat → S → (S → Option R) → Option R) (k : S → Option R) : Option R :=
 if n < 9223372036854775808 then rangeC (fun i _ s k' => body k i s k') (List.replicate n.toNat ()) 0 s k else none
def whileC {S R : Type} (body : S → (S → Option R) → Option R) : Nat → S → Option R
 | 0, _ => none
 | n + 1, s => body s (whileC body n)
def whileL {S R : Type} (n : Nat) (s : S) (body : (S → Option R) → S → (S → Option R) → Option R) (k : S → Option R) : Option R := whileC (body k) n s
def pn {α R : Type} (o : Option α) (a : Option R) (b : α → Option R) : Option R := match o with
 | none => a
 | some x => b x
theorem pn_cases {α R : Type} {o : Option α} {a : Option R} {b : α → Option R} {r : R} (h : pn o a b = some r) : (o = none ∧ a = some r) ∨ ∃ x, o = some x ∧ b x = some r := by
 cases o with
 | none => exact .inl ⟨rfl, h⟩
 | some x => exact .inr ⟨x, rfl, h⟩
def outP {α : Type} (p : PV) (f : α → AV) : Option α → Out
 | some x => .ret (f x)
 | none => .pan p
theorem outP_some {α : Type} (p : PV) (f : α → AV) (x : α) : outP p f (some x) = .ret (f x) := rfl
theorem outP_none {α : Type} (p : PV) (f : α → AV) : outP p f none = .pan p := rfl
attribute [go_sem] outP_some outP_none
def jn {S R : Type} (B : S → Option R) (A : (S → Option R) → Option R) : Option R := A B
section
variable {P : Program} {T : Tab} {H : FuncId → FH} {f base blk : Nat} {c : Code} {K : Ex × S → Option (Out × List AObj)} {Q : Out × List AObj → Prop} {live : List Nat}
theorem run_while {St R : Type} {r : R} (hl : lookupL (H f).heads blk = some live) {body : St → (St → Option R) → Option R} (M : St → Env) (Z : St → List AObj)
 (hstep : ∀ s k', (∀ s', k' s' = some r → Sat (run P T H f base blk (.loop c) ⟨M s', Z s', [], none, false⟩ K) Q) → body s k' = some r →
  Sat (run P T H f (Z s).length blk c ⟨M s, Z s, [], none, false⟩ (loopK P T H f base blk c (Z s).length live K)) Q)
 (hM : ∀ s, maskEnv (M s) live = M s) : ∀ (n : Nat) (s : St), whileC body n s = some r → Sat (run P T H f base blk (.loop c) ⟨M s, Z s, [], none, false⟩ K) Q
 | 0, s, h => by cases h
 | n + 1, s, h => by
  rw [run_loop_mask (h := hl)]
  dsimp only
  rw [hM]
  exact hstep s _ (fun s' h' => run_while hl M Z hstep hM n s' h') h
theorem run_rangeC {α St R : Type} {r : R} (hl : lookupL (H f).heads blk = some live) {body : Nat → α → St → (St → Option R) → Option R} {k : St → Option R} (xs : List α) (M : Nat → St → Env) (Z : Nat → St → List AObj)
 (hstep : ∀ i x s k', xs[i]? = some x → i < xs.length → (∀ s', k' s' = some r → Sat (run P T H f base blk (.loop c) ⟨M (i + 1) s', Z (i + 1) s', [], none, false⟩ K) Q) → body i x s k' = some r →
  Sat (run P T H f (Z i s).length blk c ⟨M i s, Z i s, [], none, false⟩ (loopK P T H f base blk c (Z i s).length live K)) Q)
 (hend : ∀ s, k s = some r → Sat (run P T H f (Z xs.length s).length blk c ⟨M xs.length s, Z xs.length s, [], none, false⟩ (loopK P T H f base blk c (Z xs.length s).length live K)) Q)
 (hM : ∀ i s, maskEnv (M i s) live = M i s) : ∀ (d i : Nat) (s : St), xs.length - i = d → i ≤ xs.length → rangeC body (xs.drop i) i s k = some r → Sat (run P T H f base blk (.loop c) ⟨M i s, Z i s, [], none, false⟩ K) Q := by
 intro d
 induction d with
 | zero =>
  intro i s hd hi h
  have e : i = xs.length := by omega
  subst e
  rw [List.drop_length] at h
  rw [run_loop_mask (h := hl)]
  dsimp only
  rw [hM]
  exact hend s h
 | succ d ih =>
  intro i s hd hi h
  obtain ⟨x, hx⟩ : ∃ x, xs[i]? = some x := ⟨xs[i]'(by omega), List.getElem?_eq_getElem (by omega)⟩
  rw [drop_get hx] at h
  rw [run_loop_mask (h := hl)]
  dsimp only
  rw [hM]
  exact hstep i x s _ hx (by omega) (fun s' h' => ih (i + 1) s' (by omega) (by omega) h') h
theorem run_rangeL {α St R : Type} {r : R} (hl : lookupL (H f).heads blk = some live) {body : (St → Option R) → Nat → α → St → (St → Option R) → Option R} {k : St → Option R} {s0 : St} {e0 : Env} {σ0 : List AObj} {xs : List α} (M : Nat → St → Env) (Z : Nat → St → List AObj) (N : St → S)
 (h : rangeL xs s0 body k = some r)
 (h0 : maskEnv e0 live = M 0 s0) (hz : σ0 = Z 0 s0) (hM : ∀ i s, maskEnv (M i s) live = M i s)
 (hafter : ∀ s, k s = some r → Sat (K (.exit blk, N s)) Q)
 (hend : ∀ (K' : Ex × S → Option (Out × List AObj)) s, Sat (K' (.exit blk, N s)) Q → ¬ ((xs.length : Int) < xs.length) → Sat (run P T H f (Z xs.length s).length blk c ⟨M xs.length s, Z xs.length s, [], none, false⟩ (loopK P T H f base blk c (Z xs.length s).length live K')) Q)
 (hstep : ∀ (K' : Ex × S → Option (Out × List AObj)) k (i : Nat) x s k', (∀ s, K' (.ret, s) = K (.ret, s) ∧ ∀ v, K' (.pan v, s) = K (.pan v, s)) → (∀ j s, j ≠ blk → K' (.exit j, s) = K (.exit j, s)) → (∀ s, k s = some r → Sat (K' (.exit blk, N s)) Q) → xs[i]? = some x → (i : Int) < xs.length → IntKind.i64.wrap ((i : Int) + 1) = ((i + 1 : Nat) : Int) → (∀ s', k' s' = some r → Sat (run P T H f base blk (.loop c) ⟨M (i + 1) s', Z (i + 1) s', [], none, false⟩ K') Q) → body k i x s k' = some r →
  Sat (run P T H f (Z i s).length blk c ⟨M i s, Z i s, [], none, false⟩ (loopK P T H f base blk c (Z i s).length live K')) Q) :
 Sat (run P T H f base blk (.loop c) ⟨e0, σ0, [], none, false⟩ K) Q := by
 unfold rangeL at h
 split at h
 ·rename_i hlen
  subst hz
  have key := run_rangeC (P := P) (T := T) (base := base) (c := c) (K := K) (Q := Q) (r := r) hl xs M Z (body := body k) (k := k)
   (fun i x s k' hx hi ih hb => hstep K k i x s k' (fun _ => ⟨rfl, fun _ => rfl⟩) (fun _ _ _ => rfl) hafter hx (by omega) (by rw [wrapN] <;> omega) ih hb)
   (fun s hk => hend K s (hafter s hk) (by omega)) hM xs.length 0 s0 (by omega) (by omega) h
  rw [run_loop_mask (h := hl)]
  rw [run_loop_mask (h := hl)] at key
  dsimp only at key ⊢
  rw [hM] at key
  rw [h0]; exact key
 ·cases h
theorem run_rangeI {St R : Type} {r : R} (hl : lookupL (H f).heads blk = some live) {body : (St → Option R) → Nat → St → (St → Option R) → Option R} {k : St → Option R} {s0 : St} {e0 : Env} {σ0 : List AObj} {n : Int} (M : Nat → St → Env) (Z : Nat → St → List AObj) (N : St → S)
 (h : rangeI n s0 body k = some r)
 (h0 : maskEnv e0 live = M 0 s0) (hz : σ0 = Z 0 s0) (hM : ∀ i s, maskEnv (M i s) live = M i s)
 (hafter : ∀ s, k s = some r → Sat (K (.exit blk, N s)) Q)
 (hend : ∀ (K' : Ex × S → Option (Out × List AObj)) (m : Nat) s, Sat (K' (.exit blk, N s)) Q → ¬ ((m : Int) < n) → Sat (run P T H f (Z m s).length blk c ⟨M m s, Z m s, [], none, false⟩ (loopK P T H f base blk c (Z m s).length live K')) Q)
 (hstep : ∀ (K' : Ex × S → Option (Out × List AObj)) k (i : Nat) s k', (∀ s, K' (.ret, s) = K (.ret, s) ∧ ∀ v, K' (.pan v, s) = K (.pan v, s)) → (∀ j s, j ≠ blk → K' (.exit j, s) = K (.exit j, s)) → (∀ s, k s = some r → Sat (K' (.exit blk, N s)) Q) → (i : Int) < n → IntKind.i64.wrap ((i : Int) + 1) = ((i + 1 : Nat) : Int) → (∀ s', k' s' = some r → Sat (run P T H f base blk (.loop c) ⟨M (i + 1) s', Z (i + 1) s', [], none, false⟩ K') Q) → body k i s k' = some r →
  Sat (run P T H f (Z i s).length blk c ⟨M i s, Z i s, [], none, false⟩ (loopK P T H f base blk c (Z i s).length live K')) Q) :
 Sat (run P T H f base blk (.loop c) ⟨e0, σ0, [], none, false⟩ K) Q := by
 unfold rangeI at h
 split at h
 ·rename_i hlen
  subst hz
  have hL : (List.replicate n.toNat ()).length = n.toNat := by simp
  have key := run_rangeC (P := P) (T := T) (base := base) (c := c) (K := K) (Q := Q) (r := r) hl (List.replicate n.toNat ()) M Z (body := fun i _ s k' => body k i s k') (k := k)
   (fun i x s k' hx hi ih hb => hstep K k i s k' (fun _ => ⟨rfl, fun _ => rfl⟩) (fun _ _ _ => rfl) hafter (by omega) (by rw [wrapN] <;> omega) ih hb)
   (fun s hk => hend K _ s (hafter s hk) (by omega)) hM (List.replicate n.toNat ()).length 0 s0 (by omega) (by omega) h
  rw [run_loop_mask (h := hl)]
  rw [run_loop_mask (h := hl)] at key
  dsimp only at key ⊢
  rw [hM] at key
  rw [h0]; exact key
 ·cases h
theorem run_whileL {St R : Type} {r : R} (hl : lookupL (H f).heads blk = some live) {body : (St → Option R) → St → (St → Option R) → Option R} {k : St → Option R} {s0 : St} {e0 : Env} {σ0 : List AObj} {n : Nat} (M : St → Env) (Z : St → List AObj) (N : St → S)
 (h : whileL n s0 body k = some r)
 (h0 : maskEnv e0 live = M s0) (hz : σ0 = Z s0) (hM : ∀ s, maskEnv (M s) live = M s)
 (hafter : ∀ s, k s = some r → Sat (K (.exit blk, N s)) Q)
 (hstep : ∀ (K' : Ex × S → Option (Out × List AObj)) k s k', (∀ s, K' (.ret, s) = K (.ret, s) ∧ ∀ v, K' (.pan v, s) = K (.pan v, s)) → (∀ j s, j ≠ blk → K' (.exit j, s) = K (.exit j, s)) → (∀ s, k s = some r → Sat (K' (.exit blk, N s)) Q) → (∀ s', k' s' = some r → Sat (run P T H f base blk (.loop c) ⟨M s', Z s', [], none, false⟩ K') Q) → body k s k' = some r →
  Sat (run P T H f (Z s).length blk c ⟨M s, Z s, [], none, false⟩ (loopK P T H f base blk c (Z s).length live K')) Q) :
 Sat (run P T H f base blk (.loop c) ⟨e0, σ0, [], none, false⟩ K) Q := by
 subst hz
 have key := run_while (P := P) (T := T) (base := base) (c := c) (K := K) (Q := Q) (r := r) hl (body := body k) M Z (fun s k' ih hb => hstep K k s k' (fun _ => ⟨rfl, fun _ => rfl⟩) (fun _ _ _ => rfl) hafter ih hb) hM n s0 h
 rw [run_loop_mask (h := hl)]
 rw [run_loop_mask (h := hl)] at key
 dsimp only at key ⊢
 rw [hM] at key
 rw [h0]; exact key
end
theorem bnd_of {n b : Nat} (h : n * b ≤ 70368744177664) (hb : 0 < b) : boundOk n b = true := decide_eq_true ⟨hb, h⟩
theorem beqT {α : Type} [BEq α] [LawfulBEq α] {x y : α} (h : x = y) : (x == y) = true := beq_iff_eq.2 h
theorem beqF {α : Type} [BEq α] [LawfulBEq α] {x y : α} (h : ¬ x = y) : (x == y) = false := beq_eq_false_iff_ne.2 h
theorem bneT {α : Type} [BEq α] [LawfulBEq α] {x y : α} (h : ¬ x = y) : (x != y) = true := bne_iff_ne.2 h
theorem bneF {α : Type} [BEq α] [LawfulBEq α] {x y : α} (h : x = y) : (x != y) = false := by subst h; exact bne_self_eq_false ..
def slcF {α : Type} (xs : List α) (lo : Int) : Option (List α) := if 0 ≤ lo ∧ lo ≤ xs.length then some (xs.drop lo.toNat) else none
def slcT {α : Type} (xs : List α) (hi : Int) : Option (List α) := if 0 ≤ hi ∧ hi ≤ xs.length then some (xs.take hi.toNat) else none
theorem slcF_some {α : Type} {xs ys : List α} {lo : Int} (h : slcF xs lo = some ys) : 0 ≤ lo ∧ lo.toNat ≤ xs.length ∧ xs.length ≤ xs.length ∧ ys = xs.drop lo.toNat := by
 unfold slcF at h
 split at h
 ·injection h with h; exact ⟨by omega, by omega, Nat.le_refl _, h.symm⟩
 ·cases h
theorem slcT_some {α : Type} {xs ys : List α} {hi : Int} (h : slcT xs hi = some ys) : 0 ≤ hi ∧ 0 ≤ hi.toNat ∧ hi.toNat ≤ xs.length ∧ ys = xs.take hi.toNat := by
 unfold slcT at h
 split at h
 ·injection h with h; exact ⟨by omega, by omega, by omega, h.symm⟩
 ·cases h
def cat (a b : Str) : Option Str := if a.length + b.length ≤ 140737488355328 then some (a ++ b) else none
theorem cat_some {a b c : Str} (h : cat a b = some c) : ((bs a).size + (bs b).size ≤ 2 ^ 47) ∧ bs a ++ bs b = bs c := by
 unfold cat at h
 split at h
 ·injection h with h
  subst h
  refine ⟨by simpa [bs, ByteArray.size] using ‹_›, ?_⟩
  apply ByteArray.ext
  simp [bs]
 ·cases h
theorem bs_size (a : Str) : (bs a).size = a.length := by simp [bs, ByteArray.size]
theorem bs_toList (a : Str) : (bs a).data.toList = a := by simp [bs]
theorem bs_mk (l : Str) : ByteArray.mk l.toArray = bs l := rfl
theorem bs_get (a : Str) (i : Nat) : (bs a)[i]? = a[i]? := by
 show (if h : i < (bs a).size then some (bs a)[i] else none) = _
 split
 ·rename_i h
  rw [List.getElem?_eq_getElem (by rw [bs_size] at h; exact h)]
  simp [bs]; rfl
 ·rename_i h
  rw [List.getElem?_eq_none (by rw [bs_size] at h; omega)]
theorem loop_eq (a : Str) : ∀ (d i : Nat) (r : List UInt8), a.length - i = d → ByteArray.toList.loop (bs a) i r = r.reverse ++ a.drop i := by
 intro d
 induction d with
 | zero =>
  intro i r h
  unfold ByteArray.toList.loop
  rw [if_neg (by rw [bs_size]; omega), List.drop_of_length_le (by omega), List.append_nil]
 | succ d ih =>
  intro i r h
  unfold ByteArray.toList.loop
  rw [if_pos (by rw [bs_size]; omega), ih (i + 1) _ (by omega)]
  have h1 : i < a.length := by omega
  rw [List.drop_eq_getElem_cons h1]
  have : (bs a).get! i = a[i] := by
   simp [bs, ByteArray.get!, h1]
  rw [this]; simp
theorem bs_tl (a : Str) : (bs a).toList = a := by
 show ByteArray.toList.loop (bs a) 0 [] = a
 rw [loop_eq a _ 0 [] rfl]; simp
theorem bs_ext (a : Str) (i j : Nat) : (bs a).extract i j = bs ((a.take j).drop i) := by
 apply ByteArray.ext
 rw [ByteArray.data_extract]
 apply Array.ext'
 simp [bs, List.drop_take]
def rowU8 (n : Int) : List PV := [.lit (.int .u8 n)]
def rowI32 (n : Int) : List PV := [.lit (.int .i32 n)]
def rowU64 (n : Int) : List PV := [.lit (.int .u64 n)]
def rowS (s : Str) : List PV := [.lit (.string (bs s))]
def rowL {α : Type} (k : Nat) (row : α → List PV) (xs : List α) : List PV := [.sl none k (xs.map row)]
attribute [go_sem] rowI rowB rowU8 rowI32 rowU64 rowS rowL bs_size bs_mk bs_get bs_tl bs_ext
section
variable {P : Program} {T : Tab} {H : FuncId → FH} {fi base : Nat} {draw : DR} {all os : List Oper} {K : Ex × S → Option (Out × List AObj)} {Q : Out × List AObj → Prop}
theorem Sat.callc {s : S} {d : Option Nat} {A : Option (Out × List AObj)} (h : Sat A (fun y => Sat (contR P T H fi base draw all os K (some (endCall s d y.2 y.1))) Q)) :
 Sat (contR P T H fi base draw all os K (callR s d A)) Q := by
 obtain ⟨⟨o, σ⟩, rfl, h2⟩ := h
 exact h2
theorem Sat.callj {X R : Type} {r : R} {s : S} {d : Option Nat} {A : Option (Out × List AObj)} {B : X → Option R} {F : (X → Option R) → Option R} (V : X → AV) (Z : X → List AObj) (h : jn B F = some r)
 (h1 : ∀ v, B v = some r → Sat (contR P T H fi base draw all os K (some (endCall s d (Z v) (.ret (V v))))) Q)
 (h2 : ∀ j : X → Option R, F j = some r → Sat A (fun y => ∃ v, y = (.ret (V v), Z v) ∧ j v = some r)) :
 Sat (contR P T H fi base draw all os K (callR s d A)) Q := by
 obtain ⟨y, rfl, v, rfl, hv⟩ := h2 B h
 exact h1 v hv
end
def mkz {α : Type} (bytes : Nat) (n m : Int) (z : α) : Option (List α) := if 0 ≤ n ∧ n ≤ m ∧ m.toNat * bytes ≤ 70368744177664 then some (List.replicate n.toNat z) else none
theorem mkz_some {α : Type} {b : Nat} {n m : Int} {z : α} {xs : List α} (h : mkz b n m z = some xs) : 0 ≤ n ∧ n ≤ m ∧ m.toNat * b ≤ 70368744177664 ∧ xs = List.replicate n.toNat z := by
 unfold mkz at h
 split at h
 ·injection h with h; exact ⟨by omega, by omega, by omega, h.symm⟩
 ·cases h
def idxM {α : Type} (n : Nat) (xs : List α) (i : Int) : Option α := if 0 ≤ i ∧ i.toNat < n then xs[i.toNat]? else none
theorem idxM_some {α : Type} {n : Nat} {xs : List α} {i : Int} {x : α} (h : idxM n xs i = some x) : 0 ≤ i ∧ i.toNat < n ∧ xs[i.toNat]? = some x := by
 unfold idxM at h
 split at h
 ·exact ⟨by omega, by omega, h⟩
 ·cases h
def ofStr (s : Str) : List Int := s.map fun u => (u.toNat : Int)
def rowA {α : Type} (row : α → List PV) (x : α) : List AV := (row x).map AV.p
def rowO {α : Type} (k : Nat) (row : α → List PV) (xs : List α) : List AV := [.own k (xs.map row)]
theorem map_set' {α β : Type} {f : α → β} {xs : List α} {i : Nat} {y : α} {r : β} (h : f y = r) : (xs.map f).set i r = (xs.set i y).map f := by rw [List.map_set, h]
theorem rep_map {α β : Type} {f : α → β} {n : Nat} {z : α} {r : β} (h : f z = r) : List.replicate n r = (List.replicate n z).map f := by rw [List.map_replicate, h]
theorem mapM_rowA {α : Type} (row : α → List PV) (base : Nat) (σ : List AObj) (k : Nat) : ∀ xs : List α, (xs.map (rowA row)).mapM (fun r => r.mapM (pur base σ (k + 1))) = some (xs.map row)
 | [] => rfl
 | x :: xs => by
  have h1 : ∀ l : List PV, (l.map AV.p).mapM (pur base σ (k + 1)) = some l := by
   intro l
   induction l with
   | nil => rfl
   | cons a l ih => rw [List.map_cons, List.mapM_cons, ih]; rfl
  have h2 := mapM_rowA row base σ k xs
  rw [List.map_cons, List.mapM_cons, h2]
  unfold rowA
  rw [h1]; rfl
theorem mapM_rowO {α : Type} (m : Nat) (row : α → List PV) (base : Nat) (σ : List AObj) (k : Nat) : ∀ xs : List (List α), (xs.map (rowO m row)).mapM (fun r => r.mapM (pur base σ (k + 1))) = some (xs.map (rowL m row))
 | [] => rfl
 | x :: xs => by
  rw [List.map_cons, List.mapM_cons, mapM_rowO m row base σ k xs]
  rfl
theorem pur_agg (base : Nat) (σ : List AObj) (k : Nat) (cs : List AV) : pur base σ (k + 1) (.agg cs) = (match cs.mapM (pur base σ k) with | some l => some (.agg l) | none => none) := rfl
theorem pur_nms (base : Nat) (σ : List AObj) (k id z : Nat) : pur base σ (k + 1) (.nms id z) = some (.sl none z []) := rfl
attribute [go_sem] pur_nms
theorem pur_ptr' (base : Nat) (σ : List AObj) (k id off : Nat) : pur base σ (k + 1) (.ptr id off) = if base ≤ id then (match σ[id]? with
 | some (.cells cs) => (match cs.mapM (pur base σ k) with | some l => some (.pp (l.drop off)) | none => none)
 | _ => none) else none := rfl
attribute [go_sem] pur_ptr'
def oP {α : Type} (f : α → List PV) : Option α → PV
 | none => .lit (.pointer none)
 | some x => .pp (f x)
theorem oP_none {α : Type} (f : α → List PV) : oP f none = .lit (.pointer none) := rfl
theorem oP_some {α : Type} (f : α → List PV) (x : α) : oP f (some x) = .pp (f x) := rfl
attribute [go_sem] oP_none oP_some
theorem pur_ms' (base : Nat) (σ : List AObj) (k id g z off len : Nat) : pur base σ (k + 1) (.ms id g z off len) = if base ≤ id then (match σ[id]? with
 | some (.arr g' sz rows) => if g == g' && decide (off + len ≤ rows.length) then
  (match ((rows.drop off).take len).mapM (fun r => r.mapM (pur base σ k)) with | some l => some (.sl none sz l) | none => none) else none
 | _ => none) else none := rfl
theorem map_rowA {α : Type} (row : α → List PV) (xs : List α) : List.map (fun x => List.map AV.p x) (List.map row xs) = List.map (rowA row) xs := by simp [rowA, Function.comp_def]
theorem byteRows_bs (s : Str) : byteRows (bs s) = List.map rowU8 (ofStr s) := by
 unfold byteRows ofStr rowU8
 rw [bs_toList, List.map_map]; rfl
theorem copyL_p (l : List PV) : copyL (l.map AV.p) = l.map AV.p := by
 induction l with
 | nil => rfl
 | cons a l ih => rw [List.map_cons, copyL, ih]; rfl
theorem allPure_p (l : List PV) : allPure (l.map AV.p) = some l := by
 induction l with
 | nil => rfl
 | cons a l ih => rw [List.map_cons, allPure, ih]
theorem ltL_p (n : Nat) (l : List PV) : ltL n (l.map AV.p) = true := by
 induction l with
 | nil => rfl
 | cons a l ih => rw [List.map_cons, ltL, ih]; rfl
theorem copyR_rowA {α : Type} (row : α → List PV) (l : List α) : copyR (l.map (rowA row)) = l.map (rowA row) := by
 induction l with
 | nil => rfl
 | cons a l ih => rw [List.map_cons, copyR, ih]; unfold rowA; rw [copyL_p]
theorem allRows_rowA {α : Type} (row : α → List PV) (l : List α) : allRows (l.map (rowA row)) = some (l.map row) := by
 induction l with
 | nil => rfl
 | cons a l ih => rw [List.map_cons, allRows, ih]; unfold rowA; rw [allPure_p]; rfl
theorem ltR_rowA {α : Type} (n : Nat) (row : α → List PV) (l : List α) : ltR n (l.map (rowA row)) = true := by
 induction l with
 | nil => rfl
 | cons a l ih => rw [List.map_cons, ltR, ih]; unfold rowA; rw [ltL_p]; rfl
def strB (ns : List Int) : Str := ns.map fun n => UInt8.ofNat n.toNat
theorem bytesR_map : ∀ (ns : List Int), bytesR (List.map rowU8 ns) = some ns
 | [] => rfl
 | n :: ns => by
  have ih := bytesR_map ns
  show (match rowU8 n, bytesR (List.map rowU8 ns) with
   | [.lit (.int .u8 n)], some ns => some (n :: ns)
   | _, _ => none) = _
  rw [ih]; rfl
theorem strOf_bs (ns : List Int) : strOf ns = bs (strB ns) := rfl
attribute [go_sem] copyR_rowA allRows_rowA ltR_rowA Nat.sub_zero List.drop_zero ne_eq
attribute [go_sem] ite_self
attribute [go_sem] map_rowA byteRows_bs
theorem pur_as {α : Type} (base : Nat) (σ : List AObj) (k sz : Nat) (ow : Bool) (v : AV) (R : α → List PV) (l : List α) : pur base σ (k + 2) (.asl ow sz ([v] :: List.map (rowA R) l)) = (match pur base σ (k + 1) v with | some p => some (.sl none sz ([p] :: List.map R l)) | none => none) := by
 have h1 : ∀ ps : List PV, (ps.map AV.p).mapM (pur base σ (k + 1)) = some ps := by
  intro ps
  induction ps with
  | nil => rfl
  | cons p ps ih => rw [List.map_cons, List.mapM_cons, ih]; rfl
 have h2 : (List.map (rowA R) l).mapM (fun r => r.mapM (pur base σ (k + 1))) = some (List.map R l) := by
  induction l with
  | nil => rfl
  | cons x l ih =>
   rw [List.map_cons, List.mapM_cons, ih]
   show ((R x).map AV.p).mapM (pur base σ (k + 1)) >>= _ = _
   rw [h1]; rfl
 show (match ([v] :: List.map (rowA R) l).mapM (fun r => r.mapM (pur base σ (k + 1))) with | some l => some (PV.sl none sz l) | none => none) = _
 rw [List.mapM_cons, h2]
 cases hv : pur base σ (k + 1) v with
 | none => simp [hv]
 | some p => simp [hv]
attribute [go_sem] pur_as
attribute [go_sem] rowA rowO mapM_rowA mapM_rowO pur_p pur_own pur_agg pur_ms'
section
variable {σ l : List AObj} {i j k : Nat} {x y z : AObj}
theorem sg_get0 : (σ ++ l)[σ.length]? = l[0]? := sA0 rfl
theorem sg_getk : (σ ++ l)[σ.length + k]? = l[k]? := sAK rfl
theorem sg_get0s : (σ.set i x ++ l)[σ.length]? = l[0]? := sA0 (List.length_set ..)
theorem sg_getks : (σ.set i x ++ l)[σ.length + k]? = l[k]? := sAK (List.length_set ..)
theorem sg_get0ss : ((σ.set i x).set j y ++ l)[σ.length]? = l[0]? := sA0 (by simp)
theorem sg_getkss : ((σ.set i x).set j y ++ l)[σ.length + k]? = l[k]? := sAK (by simp)
theorem sg_set0 : (σ ++ l).set σ.length z = σ ++ l.set 0 z := sS0 rfl
theorem sg_setk : (σ ++ l).set (σ.length + k) z = σ ++ l.set k z := sSK rfl
theorem sg_set0s : (σ.set i x ++ l).set σ.length z = σ.set i x ++ l.set 0 z := sS0 (List.length_set ..)
theorem sg_setks : (σ.set i x ++ l).set (σ.length + k) z = σ.set i x ++ l.set k z := sSK (List.length_set ..)
theorem sg_set0ss : ((σ.set i x).set j y ++ l).set σ.length z = (σ.set i x).set j y ++ l.set 0 z := sS0 (by simp)
theorem sg_setkss : ((σ.set i x).set j y ++ l).set (σ.length + k) z = (σ.set i x).set j y ++ l.set k z := sSK (by simp)
theorem sg_take0 : (σ ++ l).take σ.length = σ := sT0 rfl
theorem sg_takek : (σ ++ l).take (σ.length + k) = σ ++ l.take k := sTK rfl
theorem sg_take0s : (σ.set i x ++ l).take σ.length = σ.set i x := sT0 (List.length_set ..)
theorem sg_takeks : (σ.set i x ++ l).take (σ.length + k) = σ.set i x ++ l.take k := sTK (List.length_set ..)
theorem sg_take0ss : ((σ.set i x).set j y ++ l).take σ.length = (σ.set i x).set j y := sT0 (by simp)
theorem sg_takekss : ((σ.set i x).set j y ++ l).take (σ.length + k) = (σ.set i x).set j y ++ l.take k := sTK (by simp)
theorem sg_takes : (σ.set i x).take σ.length = σ.set i x := sTX (List.length_set ..)
theorem sg_takess : ((σ.set i x).set j y).take σ.length = (σ.set i x).set j y := sTX (by simp)
theorem sg_comm (h : i ≠ j) : ((σ.set i x).set j y).set i z = (σ.set i z).set j y := by
 rw [List.set_comm _ _ (Ne.symm h), List.set_set]
variable {m q : Nat} {w v : AObj}
theorem sg3_get0 : (((σ.set i x).set j y).set m w ++ l)[σ.length]? = l[0]? := sA0 (by simp)
theorem sg3_getk : (((σ.set i x).set j y).set m w ++ l)[σ.length + k]? = l[k]? := sAK (by simp)
theorem sg3_set0 : (((σ.set i x).set j y).set m w ++ l).set σ.length z = ((σ.set i x).set j y).set m w ++ l.set 0 z := sS0 (by simp)
theorem sg3_setk : (((σ.set i x).set j y).set m w ++ l).set (σ.length + k) z = ((σ.set i x).set j y).set m w ++ l.set k z := sSK (by simp)
theorem sg3_take0 : (((σ.set i x).set j y).set m w ++ l).take σ.length = ((σ.set i x).set j y).set m w := sT0 (by simp)
theorem sg3_takek : (((σ.set i x).set j y).set m w ++ l).take (σ.length + k) = ((σ.set i x).set j y).set m w ++ l.take k := sTK (by simp)
theorem sg3_take : (((σ.set i x).set j y).set m w).take σ.length = ((σ.set i x).set j y).set m w := sTX (by simp)
theorem sg4_get0 : ((((σ.set i x).set j y).set m w).set q v ++ l)[σ.length]? = l[0]? := sA0 (by simp)
theorem sg4_getk : ((((σ.set i x).set j y).set m w).set q v ++ l)[σ.length + k]? = l[k]? := sAK (by simp)
theorem sg4_set0 : ((((σ.set i x).set j y).set m w).set q v ++ l).set σ.length z = (((σ.set i x).set j y).set m w).set q v ++ l.set 0 z := sS0 (by simp)
theorem sg4_setk : ((((σ.set i x).set j y).set m w).set q v ++ l).set (σ.length + k) z = (((σ.set i x).set j y).set m w).set q v ++ l.set k z := sSK (by simp)
theorem sg4_take0 : ((((σ.set i x).set j y).set m w).set q v ++ l).take σ.length = (((σ.set i x).set j y).set m w).set q v := sT0 (by simp)
theorem sg4_takek : ((((σ.set i x).set j y).set m w).set q v ++ l).take (σ.length + k) = (((σ.set i x).set j y).set m w).set q v ++ l.take k := sTK (by simp)
theorem sg4_take : ((((σ.set i x).set j y).set m w).set q v).take σ.length = (((σ.set i x).set j y).set m w).set q v := sTX (by simp)
theorem sg3_comm (h : i ≠ j) (h2 : i ≠ m) : (((σ.set i x).set j y).set m w).set i z = ((σ.set i z).set j y).set m w := by
 rw [List.set_comm _ _ (Ne.symm h2), sg_comm h]
theorem sg4_comm (h : i ≠ j) (h2 : i ≠ m) (h3 : i ≠ q) : ((((σ.set i x).set j y).set m w).set q v).set i z = (((σ.set i z).set j y).set m w).set q v := by
 rw [List.set_comm _ _ (Ne.symm h3), sg3_comm h h2]
end
attribute [go_sem] sg_get0 sg_getk sg_get0s sg_getks sg_get0ss sg_getkss sg_set0 sg_setk sg_set0s sg_setks sg_set0ss sg_setkss sg_take0 sg_takek sg_take0s sg_takeks sg_take0ss sg_takekss sg_takes sg_takess sg_comm sg3_get0 sg3_getk sg3_set0 sg3_setk sg3_take0 sg3_takek sg3_take sg4_get0 sg4_getk sg4_set0 sg4_setk sg4_take0 sg4_takek sg4_take sg3_comm sg4_comm List.take_length List.append_assoc
 List.length_set List.set_set List.getElem?_append_left List.set_append_left List.getElem?_set_self List.getElem?_set_ne Nat.lt_add_right_iff_pos Nat.add_lt_add_iff_left Nat.lt_irrefl Nat.le_add_right Nat.add_le_add_iff_left Nat.succ_ne_zero
end Go.AM
