/- A part of the abstract machine and its simulation. -/
import Derived.Test.YtbalikooghpmlaaDoorAmOps14
set_option linter.unusedVariables false
set_option linter.unusedSimpArgs false
namespace Go.AM
open Go Go.RowKit
theorem sub_get {α : Type} {lo hi : Nat} {l : List α} {i : Nat} {x : α} (h : (sub lo hi l)[i]? = some x) : l[lo + i]? = some x := by
 unfold sub at h
 rw [List.getElem?_drop, List.getElem?_take] at h
 split at h
 ·exact h
 ·cases h
theorem sub_len {α : Type} {lo hi : Nat} {l : List α} (h : hi ≤ l.length) : (sub lo hi l).length = hi - lo := by
 unfold sub; simp; omega
section
variable {GL : List (Nat × List PV)} {B0 : Nat} {w0 : World} {g : G} {env : Env} {σ : List AObj} {s : S} {tm : Array Value} {w : World} {ty : List TI} {P : Program} {H : FuncId → FH} {C : CallF} {h : FH} {base : Nat}
theorem bnd_val (hI : Inv GL B0 w0 g s.env s.σ tm w) {d n : Nat} {o : Option Operand} (h : bnd ⟨ty, GL⟩ s.env d o = some n) : (o = none ∧ n = d) ∨ ∃ x k i, o = some x ∧ evT tm x = .int k i ∧ 0 ≤ i ∧ n = i.toNat := by
 unfold bnd at h
 split at h
 ·injection h with h; exact .inl ⟨rfl, h.symm⟩
 ·rename_i x
  split at h
  ·rename_i k i hv
   split at h
   ·rename_i h0
    injection h with h
    exact .inr ⟨x, k, i, rfl, hI.lit hv, h0, h.symm⟩
   ·cases h
  ·cases h
theorem run_bounds (hI : Inv GL B0 w0 g s.env s.σ tm w) {b : Bool} {len cap l h' : Nat} {lo hi : Option Operand} (hlo : bnd ⟨ty, GL⟩ s.env 0 lo = some l) (hhi : bnd ⟨ty, GL⟩ s.env len hi = some h') (h1 : l ≤ h') (h2 : h' ≤ cap) :
 (Instr.sliceBounds b len cap (lo.map (evT tm)) (hi.map (evT tm)) none).run P w = .ok (l, h', cap) w := by
 rcases bnd_val hI hlo with ⟨rfl, rfl⟩ | ⟨x, k, i, rfl, ex, hx0, rfl⟩ <;> rcases bnd_val hI hhi with ⟨rfl, rfl⟩ | ⟨y, k', i', rfl, ey, hy0, rfl⟩
 ·simp [Instr.sliceBounds]
 ·have h3 : 0 ≤ i' ∧ i' ≤ (cap : Int) := ⟨hy0, by omega⟩
  simp [Instr.sliceBounds, Instr.sliceBound, ey, asIntOf, h3]
 ·have h3 : 0 ≤ i ∧ i ≤ (h' : Int) := ⟨hx0, by omega⟩
  simp [Instr.sliceBounds, Instr.sliceBound, ex, asIntOf, h3]
 ·have h3 : 0 ≤ i' ∧ i' ≤ (cap : Int) := ⟨hy0, by omega⟩
  have h4 : 0 ≤ i ∧ i ≤ (i'.toNat : Int) := ⟨hx0, by omega⟩
  have h5 : i ≤ max i' 0 := by omega
  simp [Instr.sliceBounds, Instr.sliceBound, ex, ey, asIntOf, h3, h4, hx0, h5]
theorem run_bounds3 (hI : Inv GL B0 w0 g s.env s.σ tm w) {b : Bool} {len cap l h' : Nat} {lo hi : Option Operand} {mx : Operand} (hlo : bnd ⟨ty, GL⟩ s.env 0 lo = some l) (hhi : bnd ⟨ty, GL⟩ s.env len hi = some h') (hmx : bnd ⟨ty, GL⟩ s.env 0 (some mx) = some h') (his : hi.isSome = true) (h1 : l ≤ h') (h2 : h' ≤ cap) :
 (Instr.sliceBounds b len cap (lo.map (evT tm)) (hi.map (evT tm)) (some (evT tm mx))).run P w = .ok (l, h', h') w := by
 rcases bnd_val hI hmx with ⟨e, _⟩ | ⟨z, k0, i0, ez', ez, hz0, rfl⟩
 ·cases e
 injection ez' with ez'; subst ez'
 have h0 : 0 ≤ i0 ∧ i0 ≤ (cap : Int) := ⟨hz0, by omega⟩
 rcases bnd_val hI hhi with ⟨rfl, rfl⟩ | ⟨y, k', i', rfl, ey, hy0, e'⟩
 ·cases his
 have e0 : i' = i0 := by omega
 subst e0
 have h3 : 0 ≤ i' ∧ i' ≤ (i'.toNat : Int) := ⟨hy0, by omega⟩
 have h3' : i' ≤ max i' 0 := by omega
 rcases bnd_val hI hlo with ⟨rfl, rfl⟩ | ⟨x, k, i, rfl, ex, hx0, rfl⟩
 ·simp [Instr.sliceBounds, Instr.sliceBound, ey, ez, asIntOf, h0, h3, h3']
 ·have h4 : 0 ≤ i ∧ i ≤ (i'.toNat : Int) := ⟨hx0, by omega⟩
  have h5 : i ≤ max i' 0 := by omega
  simp [Instr.sliceBounds, Instr.sliceBound, ex, ey, ez, asIntOf, h0, h3, h3', h4, hx0, h5]
theorem slice_rel {a : AV} {V : Value} (ha : RelA g (fun _ => True) a V) {v : AV} {l h' size : Nat} (hv : sliceV a l h' = some v) (hl : isLit a = false)
 (hsz : (∀ nl sz rows, a = .p (.sl nl sz rows) → sz = size ∨ rows = []) ∧ (∀ sz rows, a = .own sz rows → sz = size ∨ rows = []) ∧ (∀ ow sz rows, a = .asl ow sz rows → sz = size ∨ rows = []) ∧ (∀ id gn sz off len, a = .ms id gn sz off len → sz = size)) :
 ∃ ad n cap, V = .slice ad n cap ∧ lenOf a = some n ∧ l ≤ h' ∧ h' ≤ n ∧ n ≤ cap ∧ ∀ m, h' ≤ m → m ≤ cap →
  RelA g (fun _ => False) v (.slice (if m = l then ad else ad.map (·.add (l * size))) (h' - l) (m - l)) ∧ (m = h' → RelA g (fun _ => False) (fullV v) (.slice (if m = l then ad else ad.map (·.add (l * size))) (h' - l) (m - l))) := by
 have pureCase : ∀ {sz : Nat} {rows : List (List PV)} {ad : Addr} {m : Nat}, (sz = size ∨ rows = []) → (m ≠ l → ad.spot = none) → RelPR g.Φ sz rows ad.block ad.off → l ≤ h' → h' ≤ rows.length → h' ≤ m →
  ∃ ad', (if m = l then some ad else (some ad).map (·.add (l * size))) = some ad' ∧ (0 < m - l → ad'.spot = none) ∧ RelPR g.Φ sz (sub l h' rows) ad'.block ad'.off := by
  intro sz rows ad m hs has hk h1 h2 h3
  split
  ·refine ⟨ad, rfl, fun hp => has (by omega), ?_⟩
   have : sub l h' rows = [] := List.length_eq_zero_iff.1 (by rw [sub_len h2]; omega)
   rw [this]; unfold RelPR; trivial
  ·have has := has (by assumption)
   refine ⟨ad.add (l * size), rfl, fun _ => by rw [addr_add' has], ?_⟩
   rw [addr_add' has]
   refine RelPR.mk fun i r hi => ?_
   obtain ⟨k1, k2⟩ := hk.get _ r (sub_get hi)
   refine ⟨k1, ?_⟩
   rcases hs with rfl | rfl
   ·show RelPC g.Φ r ad.block (ad.off + l * sz + i * sz)
    rwa [Nat.add_assoc, ← Nat.add_mul]
   ·simp [sub] at hi
 have aCase : ∀ {sz : Nat} {rows : List (List AV)} {ad : Addr} {m : Nat}, (sz = size ∨ rows = []) → (m ≠ l → ad.spot = none) → RelAR g sz rows ad.block ad.off → l ≤ h' → h' ≤ rows.length → h' ≤ m →
  ∃ ad', (if m = l then some ad else (some ad).map (·.add (l * size))) = some ad' ∧ (0 < m - l → ad'.spot = none) ∧ RelAR g sz (sub l h' rows) ad'.block ad'.off := by
  intro sz rows ad m hs has hk h1 h2 h3
  split
  ·refine ⟨ad, rfl, fun hp => has (by omega), ?_⟩
   have : sub l h' rows = [] := List.length_eq_zero_iff.1 (by rw [sub_len h2]; omega)
   rw [this]; unfold RelAR; trivial
  ·have has := has (by assumption)
   refine ⟨ad.add (l * size), rfl, fun _ => by rw [addr_add' has], ?_⟩
   rw [addr_add' has]
   refine RelAR.mk fun i r hi => ?_
   obtain ⟨k1, k2⟩ := hk.get _ r (sub_get hi)
   refine ⟨k1, ?_⟩
   rcases hs with rfl | rfl
   ·show RelAC g r ad.block (ad.off + l * sz + i * sz)
    rwa [Nat.add_assoc, ← Nat.add_mul]
   ·simp [sub] at hi
 have pfin : ∀ {sz : Nat} {rows : List (List PV)} {ad : Addr} {m : Nat}, (sz = size ∨ rows = []) → (m ≠ l → ad.spot = none) → RelPR g.Φ sz rows ad.block ad.off → l ≤ h' → h' ≤ rows.length → h' ≤ m →
  RelA g (fun _ => False) (.p (.sl none sz (sub l h' rows))) (.slice (if m = l then some ad else (some ad).map (·.add (l * size))) (h' - l) (m - l)) ∧
  (m = h' → RelA g (fun _ => False) (.own sz (sub l h' rows)) (.slice (if m = l then some ad else (some ad).map (·.add (l * size))) (h' - l) (m - l))) := by
  intro sz rows ad m hs has hk h1 h2 h3
  obtain ⟨ad', e1, e2, e3⟩ := pureCase hs has hk h1 h2 h3
  rw [e1]
  have hln := sub_len (lo := l) h2
  refine ⟨?_, fun hm => ?_⟩
  ·unfold RelA RelP
   exact ⟨some ad', m - l, by rw [hln], by rw [hln]; omega, (fun h => by cases h), (fun h => by cases h), .inr ⟨ad', rfl, e2, e3⟩⟩
  ·unfold RelA
   exact .inr ⟨ad', m - l, by rw [hln], by rw [hln]; omega, e2, e3, fun hlt => by rw [hln] at hlt; omega⟩
 cases a with
 | p pv =>
  cases pv with
  | lit x => cases hl
  | sl nl sz rows =>
   simp only [sliceV] at hv
   split at hv
   ·rename_i hc
    injection hv with hv; subst hv
    unfold RelA RelP at ha
    obtain ⟨a', cap, eV, hlen, hn, hf, hs⟩ := ha
    refine ⟨a', rows.length, cap, eV, rfl, hc.1, hc.2, hlen, fun m hm1 hm2 => ?_⟩
    rcases hs with ⟨rfl, rfl⟩ | ⟨ad, rfl, es, hk⟩
    ·have hr0 : rows = [] := by
      cases rows with
      | nil => rfl
      | cons x xs => simp at hlen
     subst hr0
     have hl0 : l = 0 := by simp at hc; omega
     have hh0 : h' = 0 := by simp at hc; omega
     have hm0 : m = 0 := by omega
     subst hl0; subst hh0; subst hm0
     have hR : ∀ nl : Option Bool, nl ≠ some false → RelA g (fun _ => False) (.p (.sl nl sz (sub 0 0 []))) (.slice none 0 0) := by
      intro nl hnl
      unfold RelA RelP
      exact ⟨none, 0, rfl, Nat.le_refl _, fun _ => ⟨rfl, rfl⟩, fun h => absurd h hnl, .inl ⟨rfl, rfl⟩⟩
     rcases nl with _ | _ | _
     ·refine ⟨hR none (by simp), fun _ => ?_⟩
      show RelA g (fun _ => False) (.own sz (sub 0 0 [])) (.slice none 0 0)
      unfold RelA
      exact .inl ⟨rfl, rfl⟩
     ·exact absurd rfl (hf rfl).1
     ·exact ⟨hR (some true) (by simp), fun _ => hR (some true) (by simp)⟩
    ·have hp := pfin (hsz.1 _ _ _ rfl) (fun hne => es (by omega)) hk hc.1 hc.2 hm1
     rcases nl with _ | _ | _
     ·exact hp
     ·exact hp
     ·obtain ⟨h1, h2⟩ := hn rfl
      cases h1
   ·cases hv
  | _ => simp [sliceV] at hv
 | own sz rows =>
  simp only [sliceV] at hv
  split at hv
  ·rename_i hc
   injection hv with hv; subst hv
   unfold RelA at ha
   rcases ha with ⟨rfl, rfl⟩ | ⟨ad, cap, eV, hlen, es, hk, _⟩
   ·refine ⟨none, 0, 0, rfl, rfl, hc.1, hc.2, Nat.le_refl _, fun m hm1 hm2 => ?_⟩
    have hl0 : l = 0 := by simp at hc; omega
    have hh0 : h' = 0 := by simp at hc; omega
    have hm0 : m = 0 := by omega
    subst hl0; subst hh0; subst hm0
    refine ⟨?_, fun _ => ?_⟩
    ·unfold RelA RelP
     exact ⟨none, 0, rfl, Nat.le_refl _, (fun h => by cases h), (fun h => by cases h), .inl ⟨rfl, rfl⟩⟩
    ·show RelA g (fun _ => False) (.own sz (sub 0 0 [])) (.slice none 0 0)
     unfold RelA
     exact .inl ⟨rfl, rfl⟩
   exact ⟨some ad, rows.length, cap, eV, rfl, hc.1, hc.2, hlen, fun m hm1 hm2 => pfin (hsz.2.1 _ _ rfl) (fun hne => es (by omega)) hk hc.1 hc.2 hm1⟩
  ·cases hv
 | asl ow sz rows =>
  simp only [sliceV] at hv
  split at hv
  ·rename_i hc
   injection hv with hv; subst hv
   unfold RelA at ha
   rcases ha with ⟨rfl, rfl⟩ | ⟨ad, cap, eV, hlen, es, hk, _⟩
   ·refine ⟨none, 0, 0, rfl, rfl, hc.1, hc.2, Nat.le_refl _, fun m hm1 hm2 => ?_⟩
    have hl0 : l = 0 := by simp at hc; omega
    have hh0 : h' = 0 := by simp at hc; omega
    have hm0 : m = 0 := by omega
    subst hl0; subst hh0; subst hm0
    have : RelA g (fun _ => False) (.asl false sz (sub 0 0 [])) (.slice none 0 0) := by
     unfold RelA
     exact .inl ⟨rfl, rfl⟩
    exact ⟨this, fun _ => this⟩
   refine ⟨some ad, rows.length, cap, eV, rfl, hc.1, hc.2, hlen, fun m hm1 hm2 => ?_⟩
   obtain ⟨ad', e1, e2, e3⟩ := aCase (m := m) (hsz.2.2.1 _ _ _ rfl) (fun hne => es (by omega)) hk hc.1 hc.2 hm1
   rw [e1]
   have hln := sub_len (lo := l) hc.2
   have : RelA g (fun _ => False) (.asl false sz (sub l h' rows)) (.slice (some ad') (h' - l) (m - l)) := by
    unfold RelA
    exact .inr ⟨ad', m - l, by rw [hln], by rw [hln]; omega, e2, e3, fun h => by cases h⟩
   exact ⟨this, fun _ => this⟩
  ·cases hv
 | ms id gn sz off len =>
  simp only [sliceV] at hv
  split at hv
  ·rename_i hc
   injection hv with hv; subst hv
   unfold RelA at ha
   obtain ⟨e, he, hea, hg, hes, ad, cap, eV, hlen, hx, hsp⟩ := ha
   refine ⟨some ad, len, cap, eV, rfl, hc.1, hc.2, hlen, fun m hm1 hm2 => ?_⟩
   have hss := hsz.2.2.2 _ _ _ _ _ rfl
   have : ∃ ad', (if m = l then some ad else (some ad).map (·.add (l * size))) = some ad' ∧ (m ≠ l → ad' = ad.add (l * size)) ∧ ad'.spot = none := by
    split
    ·exact ⟨ad, rfl, fun h => absurd ‹_› h, hsp⟩
    ·exact ⟨ad.add (l * size), rfl, fun _ => rfl, by rw [addr_add' hsp]⟩
   obtain ⟨ad', e1, e2, e3⟩ := this
   rw [e1]
   have : RelA g (fun _ => False) (.ms id gn sz (off + l) (h' - l)) (.slice (some ad') (h' - l) (m - l)) := by
    unfold RelA
    refine ⟨e, he, hea, hg, hes, ad', m - l, rfl, by omega, fun hge hlt => ?_, e3⟩
    obtain ⟨k1, k2⟩ := hx hge (by omega)
    have k3 := hes hge
    refine ⟨?_, ?_⟩
    ·rw [e2 (by omega), k1, addr_add, k3, hss, Nat.add_mul]
    ·have : (off + l + (m - l)) * e.sz ≤ (off + cap) * e.sz := Nat.mul_le_mul_right _ (by omega)
     omega
   exact ⟨this, fun _ => this⟩
  ·cases hv
 | nms id sz =>
  simp only [sliceV] at hv
  split at hv
  ·rename_i hc
   obtain ⟨rfl, rfl⟩ := hc
   injection hv with hv; subst hv
   unfold RelA at ha
   obtain ⟨e, he, hea, rfl⟩ := ha
   refine ⟨none, 0, 0, rfl, rfl, Nat.le_refl _, Nat.le_refl _, Nat.le_refl _, fun m hm1 hm2 => ?_⟩
   have hm0 : m = 0 := by omega
   subst hm0
   have : RelA g (fun _ => False) (.nms id sz) (.slice none 0 0) := by
    unfold RelA; exact ⟨e, he, hea, rfl⟩
   exact ⟨this, fun _ => this⟩
  ·cases hv
 | _ => simp [sliceV] at hv
theorem sliceOk_ok (hT : TabOk P ⟨ty, GL⟩) {t : TypeId} {a : AV} (h : sliceOk ⟨ty, GL⟩ t a = true) (hl : isLit a = false) : ∃ e, P.underlying t = some (.slice e) ∧ (∀ w : World, (sizeOf e).run P w = .ok (Tab.at ⟨ty, GL⟩ e).size w) ∧
 ((∀ nl sz rows, a = .p (.sl nl sz rows) → sz = (Tab.at ⟨ty, GL⟩ e).size ∨ rows = []) ∧ (∀ sz rows, a = .own sz rows → sz = (Tab.at ⟨ty, GL⟩ e).size ∨ rows = []) ∧ (∀ ow sz rows, a = .asl ow sz rows → sz = (Tab.at ⟨ty, GL⟩ e).size ∨ rows = []) ∧ (∀ id gn sz off len, a = .ms id gn sz off len → sz = (Tab.at ⟨ty, GL⟩ e).size)) := by
 have fin : ∀ {e : TypeId}, (Tab.at ⟨ty, GL⟩ t).d = .sl e → sizedOk ⟨ty, GL⟩ e = true → P.underlying t = some (.slice e) ∧ ∀ w : World, (sizeOf e).run P w = .ok (Tab.at ⟨ty, GL⟩ e).size w := fun h1 h2 => ⟨hT.sl h1, fun w => hT.size (sizedOk_ok h2).1 w⟩
 unfold sliceOk at h
 split at h
 ·cases hl
 ·split at h
  ·rename_i e hd
   simp only [Bool.and_eq_true, Bool.or_eq_true, beq_iff_eq, List.isEmpty_iff] at h
   obtain ⟨k1, k2⟩ := fin hd h.1
   exact ⟨e, k1, k2, fun _ _ _ e => (by cases e; exact h.2), fun _ _ e => (by cases e), fun _ _ _ e => (by cases e), fun _ _ _ _ _ e => (by cases e)⟩
  ·cases h
 ·split at h
  ·rename_i e hd
   simp only [Bool.and_eq_true, Bool.or_eq_true, beq_iff_eq, List.isEmpty_iff] at h
   obtain ⟨k1, k2⟩ := fin hd h.1
   exact ⟨e, k1, k2, fun _ _ _ e => (by cases e), fun _ _ e => (by cases e; exact h.2), fun _ _ _ e => (by cases e), fun _ _ _ _ _ e => (by cases e)⟩
  ·cases h
 ·split at h
  ·rename_i e hd
   simp only [Bool.and_eq_true, Bool.or_eq_true, beq_iff_eq, List.isEmpty_iff] at h
   obtain ⟨k1, k2⟩ := fin hd h.1
   exact ⟨e, k1, k2, fun _ _ _ e => (by cases e), fun _ _ e => (by cases e), fun _ _ _ e => (by cases e; exact h.2), fun _ _ _ _ _ e => (by cases e)⟩
  ·cases h
 ·split at h
  ·rename_i e hd
   simp only [Bool.and_eq_true, beq_iff_eq] at h
   obtain ⟨k1, k2⟩ := fin hd h.1
   exact ⟨e, k1, k2, fun _ _ _ e => (by cases e), fun _ _ e => (by cases e), fun _ _ _ e => (by cases e), fun _ _ _ _ _ e => (by cases e; exact h.2)⟩
  ·cases h
 ·split at h
  ·rename_i e hd
   obtain ⟨k1, k2⟩ := fin hd h
   exact ⟨e, k1, k2, fun _ _ _ e => (by cases e), fun _ _ e => (by cases e), fun _ _ _ e => (by cases e), fun _ _ _ _ _ e => (by cases e)⟩
  ·cases h
 ·cases h
theorem lenOf_copyA {a : AV} {n : Nat} (h : lenOf a = some n) : lenOf (copyA a) = some n ∧ isLit (copyA a) = isLit a ∧ ∀ l h', (sliceV (copyA a) l h') = sliceV a l h' := by
 cases a with
 | p pv => exact ⟨h, rfl, fun _ _ => rfl⟩
 | own sz rows => exact ⟨h, rfl, fun _ _ => rfl⟩
 | asl ow sz rows => exact ⟨h, rfl, fun _ _ => rfl⟩
 | ms id gn sz off len => exact ⟨h, rfl, fun _ _ => rfl⟩
 | nms id k => exact ⟨h, rfl, fun _ _ => rfl⟩
 | _ => cases h
theorem sim_sliceE (hT : TabOk P ⟨ty, GL⟩) {o : Oper} {t : TypeId} {x : Operand} {lo hi : Option Operand} (ho : o.op = .slice t x lo hi none) (hI : Inv GL B0 w0 g s.env s.σ tm w) (hd : ∀ d, o.dst = some d → d < tm.size) {v : AV}
 (hv : sliceE ⟨ty, GL⟩ s.σ t (rd ⟨ty, GL⟩ s.env x) (fun d => bnd ⟨ty, GL⟩ s.env d lo) (fun d => bnd ⟨ty, GL⟩ s.env d hi) = some v) :
 SimR GL B0 w0 g w (putE s.env o.dst v) s.σ tm o.dst ((execOp (evT tm) o).run P w) := by
 unfold sliceE at hv
 split at hv
 ·rename_i n e id gn i j hde hx
  split at hv
  ·rename_i g' sz rows l h' ho1 hlo hhi
   split at hv
   ·rename_i hc
    obtain ⟨rfl, rfl, rfl, hse, hfit, h1, h2⟩ := hc
    injection hv with hv; subst hv
    have hr := hI.rd (ty := ty) x
    rw [hx] at hr
    have hr := hr.any (fun _ => by simp)
    unfold RelA at hr
    obtain ⟨e1, he1, hea, hge, ad, eV, had⟩ := hr
    obtain ⟨e2, he2, _, q1, q2, ht, hf, C, hC, hCs, hCl, _, _⟩ := hI.objs id _ ho1
    rw [he1] at he2; injection he2 with he2; subst he2
    have hse' := sizedOk_ok hse
    have had := had q1.symm
    subst had
    have hb := run_bounds (P := P) (w := w) (b := false) (cap := n) hI hlo hhi h1 h2
    have hrun : (execOp (evT tm) o).run P w = .ok (.value (.slice (some (if n = l then ⟨e1.blk, i * e1.sz + 0, none⟩ else (⟨e1.blk, i * e1.sz + 0, none⟩ : Addr).add (l * (Tab.at ⟨ty, GL⟩ e).size))) (h' - l) (n - l))) w := by
     unfold execOp; rw [ho]
     simp only [Option.map_none]
     simp [Instr.sliceAt, Instr.sureAddr, run_underlying (hT.arr hde), eV, hb, hT.size hse'.1 w]
    refine SimR.value hI hd ?_ hrun
    unfold RelA
    refine ⟨e1, he1, hea, hge, fun _ => q2, _, _, rfl, by omega, fun _ hpos => ?_, ?_⟩
    ·rw [if_neg (by omega), addr_add' rfl]
     refine ⟨?_, ?_⟩
     ·rw [q2]
      simp only [Nat.add_zero, Nat.add_mul]
     ·have : (i + n) * e1.sz ≤ rows.length * e1.sz := Nat.mul_le_mul_right _ hfit
      rw [q2] at this ⊢
      rw [← hCs]
      rw [show i + l + (n - l) = i + n by omega]
      omega
    ·split
     ·rfl
     ·rw [addr_add' rfl]
   ·cases hv
  ·cases hv
 ·cases hv
theorem nmF_rel {g : G} {tg : Nat → Prop} {v : AV} {V : Value} (b : Bool) (h : RelA g tg v V) : RelA g tg (if b = true then nmF v else v) V := by
 cases b with
 | false => exact h
 | true =>
  rw [if_pos rfl]
  cases v with
  | nms id sz =>
   unfold RelA at h
   obtain ⟨_, _, _, rfl⟩ := h
   unfold nmF RelA RelP
   exact ⟨none, 0, rfl, Nat.le_refl _, fun _ => ⟨rfl, rfl⟩, (fun h => by cases h), .inl ⟨rfl, rfl⟩⟩
  | _ => exact h
theorem sim_slice (hT : TabOk P ⟨ty, GL⟩) {o : Oper} {t : TypeId} {x : Operand} {lo hi mx : Option Operand} (ho : o.op = .slice t x lo hi mx) (hI : Inv GL B0 w0 g s.env s.σ tm w) (hd : ∀ d, o.dst = some d → d < tm.size) {s' : S} (hs : stepOp0 ⟨⟨ty, GL⟩, H, C, h, base⟩ o s = some (.ok s')) :
 SimR GL B0 w0 g w s'.env s'.σ tm o.dst ((execOp (evT tm) o).run P w) := by
 unfold stepOp0 at hs
 rw [ho] at hs
 dsimp only at hs
 split at hs
 ·split at hs
  ·rename_i hmx
   obtain ⟨v, hv, rfl⟩ := putRes_ok hs
   exact sim_sliceE hT ho hI hd hv
  ·cases hs
 split at hs
 ·cases hs
 ·rename_i hok
  have hok : sliceOk ⟨ty, GL⟩ t (rd ⟨ty, GL⟩ s.env x) = true := by simpa using hok
  split at hs
  ·rename_i n hlen
   have hx := hI.rd (ty := ty) x
   have hnt : ∀ cs, rd ⟨ty, GL⟩ s.env x ≠ .tup cs := fun cs e => by rw [e] at hlen; cases hlen
   cases hlit : isLit (rd ⟨ty, GL⟩ s.env x) with
   | true =>
    have hstr : ∃ b, rd ⟨ty, GL⟩ s.env x = .p (.lit (.string b)) ∧ (Tab.at ⟨ty, GL⟩ t).d = .str := by
     revert hok hlit
     generalize rd ⟨ty, GL⟩ s.env x = a
     intro hok hlit
     unfold sliceOk at hok
     split at hok
     ·rename_i b
      split at hok
      ·rename_i hd; exact ⟨b, rfl, hd⟩
      ·cases hok
     all_goals (first | (cases hlit; done) | (cases hok; done))
    obtain ⟨b, hb, hde⟩ := hstr
    split at hs
    ·rename_i l h' hlo hhi
     obtain ⟨v', hv', rfl⟩ := putRes_ok hs
     obtain ⟨v, hv, rfl⟩ := nmO_some hv'
     clear hv'
     rw [hb] at hv hlen
     simp only [sliceV] at hv
     split at hv
     ·rename_i hc
      injection hv with hv; subst hv
      injection hlen with hlen; subst hlen
      refine SimR.value hI hd (nmF_rel _ (RelA.lit rfl)) ?_
      have hr := run_bounds (P := P) (w := w) (b := false) (cap := b.size) hI hlo hhi hc.1 hc.2
      unfold execOp; rw [ho]
      simp [Instr.sliceAt, Instr.slice, run_underlying (hT.str hde), hI.lit hb, hr]
     ·cases hv
    ·rename_i l h' m hlo hhi
     split at hs
     ·split at hs
      ·rename_i hc; rw [hlit] at hc; cases hc.2.2
      ·cases hs
     ·cases hs
    ·cases hs
   | false =>
    obtain ⟨e, hu, hsz, hss⟩ := sliceOk_ok hT hok hlit
    have run : ∀ {ad : Option Addr} {n' cap l h' m : Nat}, evT tm x = .slice ad n' cap → (Instr.sliceBounds true n' cap (lo.map (evT tm)) (hi.map (evT tm)) (mx.map (evT tm))).run P w = .ok (l, h', m) w →
     (execOp (evT tm) o).run P w = .ok (.value (.slice (if m = l then ad else ad.map (·.add (l * (Tab.at ⟨ty, GL⟩ e).size))) (h' - l) (m - l))) w := by
     intro ad n' cap l h' m eV hr
     unfold execOp; rw [ho]
     simp [Instr.sliceAt, Instr.slice, run_underlying hu, eV, hr, hsz w]
    split at hs
    ·rename_i l h' hlo hhi
     obtain ⟨v', hv', rfl⟩ := putRes_ok hs
     obtain ⟨v, hv, rfl⟩ := nmO_some hv'
     clear hv'
     obtain ⟨ad, n', cap, eV, hl', c1, c2, c3, hR⟩ := slice_rel (hx.any hnt) hv hlit hss
     rw [hlen] at hl'; injection hl' with hl'; subst hl'
     have hr := run_bounds (P := P) (w := w) (b := true) (cap := cap) hI hlo hhi c1 (by omega)
     exact SimR.value hI hd (nmF_rel _ (hR cap (by omega) (Nat.le_refl _)).1) (run eV hr)
    ·rename_i l h' m hlo hhi
     split at hs
     ·rename_i m' hmx
      split at hs
      ·rename_i hc
       obtain ⟨rfl, his, _⟩ := hc
       split at hs
       ·rename_i v hv
        injection hs with hs; injection hs with hs; subst hs
        have hcp := lenOf_copyA hlen
        unfold rdc at hv
        rw [hcp.2.2] at hv
        obtain ⟨ad, n', cap, eV, hl', c1, c2, c3, hR⟩ := slice_rel (hx.any hnt) hv hlit hss
        rw [hlen] at hl'; injection hl' with hl'; subst hl'
        have hr := run_bounds3 (P := P) (w := w) (b := true) (cap := cap) hI hlo hhi hmx his c1 (by omega)
        exact SimR.value hI hd ((hR m' (Nat.le_refl _) (by omega)).2 rfl) (run eV hr)
       ·cases hs
      ·cases hs
     ·cases hs
    ·cases hs
  ·cases hs
end
end Go.AM
