/- A part of the abstract machine and its simulation. -/
import Derived.Test.YtbalikooghpmlaaDoorAmOps16
import Derived.Test.YtbalikooghpmlaaDoorAmRm
import Derived.MapKept
set_option linter.unusedVariables false
set_option linter.unusedSimpArgs false
namespace Go.AM
open Go Go.RowKit Go.MapKept
def dKey : Option IntKind → TypeDesc
 | some k => .int k
 | none => .string
theorem isKey_kind {kt : Option IntKind} {k : Value} (h : kindK k = some kt) : IsKey (dKey kt) k := by
 unfold kindK at h
 split at h
 ·injection h with h; subst h; exact rfl
 ·injection h with h; subst h; exact trivial
 ·cases h
theorem same_kind {kt : Option IntKind} {a b : Value} (ha : kindK a = some kt) (hb : kindK b = some kt) : Instr.sameNow (dKey kt) a b = some (sameKey a b) ∧ (sameKey a b = true ↔ a = b) := by
 unfold kindK at ha hb
 split at ha
 ·split at hb
  ·injection ha with ha; subst ha
   injection hb with hb; injection hb with hb; subst hb
   simp [dKey, Instr.sameNow, sameKey]
  ·injection ha with ha; subst ha; injection hb with hb; cases hb
  ·cases hb
 ·split at hb
  ·injection ha with ha; subst ha; injection hb with hb; cases hb
  ·injection ha with ha; subst ha
   simp [dKey, Instr.sameNow, sameKey, bytes_beq]
  ·cases hb
 ·cases ha
theorem kv_find {Φ : Mem} {kt : Option IntKind} {key : Value} (hk : kindK key = some kt) : ∀ (kvs : List (Value × PV)) (es : List MapEntry) (i : Nat), RelKV Φ kt kvs es →
 (Instr.findNow (dKey kt) key es i = some none ∧ findKV key kvs = none ∧ ∀ v, setKV key v kvs = kvs ++ [(key, v)]) ∨
 ∃ j e p, Instr.findNow (dKey kt) key es i = some (some (i + j, e.val)) ∧ es[j]? = some e ∧ e.key = key ∧ findKV key kvs = some p ∧ RelP Φ p e.val ∧ ∀ v, setKV key v kvs = kvs.set j (key, v)
 | [], [], i, _ => .inl ⟨rfl, rfl, fun _ => rfl⟩
 | (k, p) :: r, E :: es, i, h => by
  obtain ⟨h1, h2, h3, h4⟩ := h
  obtain ⟨s1, s2⟩ := same_kind hk h2
  by_cases e : sameKey key k = true
  ·refine .inr ⟨0, E, p, ?_, rfl, h1.trans (s2.1 e).symm, ?_, h3, fun v => ?_⟩
   ·rw [Instr.findNow, h1, s1, e]; rfl
   ·rw [findKV, if_pos e]
   ·rw [setKV, if_pos e]; rfl
  ·rcases kv_find hk r es (i + 1) h4 with ⟨q1, q2, q3⟩ | ⟨j, e', p', q1, q2, q3, q4, q5, q6⟩
   ·refine .inl ⟨?_, ?_, fun v => ?_⟩
    ·rw [Instr.findNow, h1, s1, eq_false_of_ne_true e]; exact q1
    ·rw [findKV, if_neg e]; exact q2
    ·rw [setKV, if_neg e, q3]; rfl
   ·refine .inr ⟨j + 1, e', p', ?_, by simpa using q2, q3, ?_, q5, fun v => ?_⟩
    ·rw [Instr.findNow, h1, s1, eq_false_of_ne_true e]
     rw [show i + (j + 1) = i + 1 + j by omega]; exact q1
    ·rw [findKV, if_neg e]; exact q4
    ·rw [setKV, if_neg e, q6]; rfl
 | [], _ :: _, _, h => h.elim
 | _ :: _, [], _, h => h.elim
theorem kv_snoc {Φ : Mem} {kt : Option IntKind} {key : Value} {p : PV} {E : MapEntry} (h1 : E.key = key) (h2 : kindK key = some kt) (h3 : RelP Φ p E.val) : ∀ {kvs : List (Value × PV)} {es : List MapEntry}, RelKV Φ kt kvs es → RelKV Φ kt (kvs ++ [(key, p)]) (es ++ [E])
 | [], [], _ => ⟨h1, h2, h3, trivial⟩
 | (k, q) :: r, e :: es, h => ⟨h.1, h.2.1, h.2.2.1, kv_snoc h1 h2 h3 h.2.2.2⟩
 | [], _ :: _, h => h.elim
 | _ :: _, [], h => h.elim
theorem kv_set {Φ : Mem} {kt : Option IntKind} {key : Value} {p : PV} {E : MapEntry} (h1 : E.key = key) (h2 : kindK key = some kt) (h3 : RelP Φ p E.val) : ∀ {kvs : List (Value × PV)} {es : List MapEntry} (j : Nat), RelKV Φ kt kvs es → RelKV Φ kt (kvs.set j (key, p)) (es.set j E)
 | [], [], j, _ => by simp [RelKV]
 | (k, q) :: r, e :: es, 0, h => ⟨h1, h2, h3, h.2.2.2⟩
 | (k, q) :: r, e :: es, j + 1, h => ⟨h.1, h.2.1, h.2.2.1, kv_set h1 h2 h3 j h.2.2.2⟩
 | [], _ :: _, _, h => h.elim
 | _ :: _, [], _, h => h.elim
section
variable {GL : List (Nat × List PV)} {B0 : Nat} {w0 : World} {g : G} {env : Env} {σ : List AObj} {s : S} {tm : Array Value} {w : World} {ty : List TI} {P : Program} {H : FuncId → FH} {C : CallF} {h : FH} {base : Nat}
theorem TabOk.map (hT : TabOk P ⟨ty, GL⟩) {t k e : TypeId} (hd : (Tab.at ⟨ty, GL⟩ t).d = .map k e) : P.underlying t = some (.map k e) := by
 obtain ⟨i, u, hi, hu, _, _, h3, _⟩ := (hT.ty t (by rw [hd]; simp)).out
 rw [hd] at h3
 cases u <;> simp [tdMatch] at h3
 obtain ⟨rfl, rfl⟩ := h3; exact hu
theorem mapTy_ok (hT : TabOk P ⟨ty, GL⟩) {t e : TypeId} {kt : Option IntKind} (h : mapTy ⟨ty, GL⟩ t = some (kt, e)) : ∃ k, P.underlying t = some (.map k e) ∧ P.underlying k = some (dKey kt) := by
 unfold mapTy at h
 split at h
 ·rename_i k e' hd
  have hm := hT.map hd
  split at h
  ·rename_i kd hk
   injection h with h; injection h with h1 h2; subst h1; subst h2
   exact ⟨k, hm, hT.int hk⟩
  ·rename_i hk
   injection h with h; injection h with h1 h2; subst h1; subst h2
   exact ⟨k, hm, hT.str hk⟩
  ·cases h
 ·cases h
theorem keyOf_some {v : AV} {kt : Option IntKind} {key : Value} (h : keyOf v = some (kt, key)) : v = .p (.lit key) ∧ kindK key = some kt ∧ litOk key = true := by
 unfold keyOf at h
 split at h
 ·injection h with h; injection h with h1 h2; subst h1; subst h2; exact ⟨rfl, rfl, rfl⟩
 ·injection h with h; injection h with h1 h2; subst h1; subst h2; exact ⟨rfl, rfl, rfl⟩
 ·cases h
theorem zero_pick (hT : TabOk P ⟨ty, GL⟩) {t : TypeId} (hz : zeroOk ⟨ty, GL⟩ t = true) {p : PV} (hp : pickPure ⟨ty, GL⟩ t (Tab.at ⟨ty, GL⟩ t).zero = some p) (Φ : Mem) (w : World) : ∃ z, (zeroValue t).run P w = .ok z w ∧ RelP Φ p z := by
 obtain ⟨hno, hl⟩ := zeroOk_ok hz
 obtain ⟨i, u, hi, hu, h1, h2, h3, h4⟩ := (hT.ty t hno).out
 obtain ⟨z, hzz, hs, hr, hzc⟩ := h4 hl
 have hf := (hT.ty t hno).zf hl i z hi hzz
 refine ⟨z, by simp [zeroValue, typeInfo, hi, hzz], ?_⟩
 unfold pickPure at hp
 split at hp
 ·rename_i ha
  split at hp
  ·injection hp with hp; subst hp
   unfold zForm at hf
   rw [ha] at hf
   cases z with
   | agg cs =>
    unfold RelP
    refine ⟨cs.toList, by simp, ?_⟩
    rw [← hl, List.take_of_length_le (Nat.le_refl _)]
    exact hr Φ
   | _ => cases hf
  ·cases hp
 ·rename_i ha
  unfold zForm at hf
  rw [ha] at hf
  have hc : z.cells.toList = [z] := by cases z <;> first | rfl | cases hf
  have hr := hr Φ
  rw [hc] at hr
  obtain ⟨l, f⟩ := hr.get
  obtain ⟨v, hv, _, r⟩ := f 0 p hp
  simp at hv; subst hv; exact r
 ·cases hp
theorem Inv.alloc_map (hI : Inv GL B0 w0 g env σ tm w) (kt : Option IntKind) :
 ∃ g', Inv GL B0 w0 g' env (σ ++ [.map kt []]) tm (w.alloc (.map #[] 0)) ∧ Post g w g' (w.alloc (.map #[] 0)) ∧ ∃ e, g'.μ[σ.length]? = some e ∧ e.arr = false ∧ e.blk = w.heap.size := by
 have hΦ : ∀ b q, b < w.heap.size → g.Φ b q = g.Φ b q := fun _ _ _ => rfl
 have hμ : (g.fresh w.heap.size 0 (.obj σ.length) g.Φ (g.μ ++ [⟨0, w.heap.size, 0, false⟩])).μ[σ.length]? = some ⟨0, w.heap.size, 0, false⟩ := by
  simp only [G.fresh]; rw [← hI.len]; simp
 have hget : ∀ (id : Nat) e, g.μ[id]? = some e → (g.μ ++ [(⟨0, w.heap.size, 0, false⟩ : ME)])[id]? = some e := fun id e he => by
  rw [List.getElem?_append_left (List.getElem?_eq_some_iff.1 he).1]; exact he
 have hle : Gle g (g.fresh w.heap.size 0 (.obj σ.length) g.Φ (g.μ ++ [⟨0, w.heap.size, 0, false⟩])) := ⟨fun b q u hu => hu, fun id e he => ⟨e, hget id e he, rfl, Nat.le_refl _, fun _ => ⟨rfl, rfl, fun _ => by simp [G.fresh, upd, Nat.ne_of_lt (hI.mlt id e he)]⟩, fun _ => rfl⟩⟩
 have hE : Ext B0 g (g.fresh w.heap.size 0 (.obj σ.length) g.Φ (g.μ ++ [⟨0, w.heap.size, 0, false⟩])) w (w.alloc (.map #[] 0)) := by
  refine ⟨hle, (Below.refl _ _).alloc hI.base _, fun b q u hu => ?_, fun b p hb => ?_, fun b p hb h1 h2 => ?_, fun id e he => ?_⟩
  ·have hu' : g.Φ b q = some u := hu
   have hlt := World.block_lt_of_cell? w _ (hI.fz b q u hu')
   rw [World.cell?_of_block (w := w) (a := ⟨b, q, none⟩) (heap_alloc_old w _ b hlt)]
   exact hI.fz b q u hu'
  ·simp only [G.fresh, upd] at hb
   split at hb
   ·rename_i e; subst e; exact ⟨hI.base, by simp⟩
   ·have := hI.tlt b p hb; simp; omega
  ·simp only [G.fresh, upd] at hb ⊢
   split at hb
   ·injection hb with hb; exact absurd hb.symm (h1 _)
   ·rename_i hne
    obtain ⟨D, ⟨el, hD⟩, hs⟩ := hI.own b p hb h1 h2
    exact ⟨D, ⟨el, by rw [heap_alloc_old w _ b (hI.tlt b p hb).2]; exact hD⟩, by simp [hne, hs]⟩
  ·simp only [G.fresh] at he
   by_cases hid : id < g.μ.length
   ·rw [List.getElem?_append_left hid] at he; have := hI.mlt id e he; simp; omega
   ·rw [List.getElem?_append_right (by omega)] at he
    have : id - g.μ.length = 0 := by
     have := (List.getElem?_eq_some_iff.1 he).1; simp at this; omega
    rw [this] at he; simp at he; subst he; simp
 have hk := hI.fresh_keep (.map #[] 0) (n := 0) (pl := .obj σ.length) (μ := g.μ ++ [⟨0, w.heap.size, 0, false⟩]) hΦ
 refine ⟨_, hI.ext hE (fun t => (hI.env t).keep hE.le hk trivial (fun _ => trivial)) (fun id o ho => ?_) (by simp [G.fresh, hI.len]), hI.fresh_post _ hE.le hΦ, ⟨_, hμ, rfl, rfl⟩⟩
 by_cases hid : id < σ.length
 ·rw [List.getElem?_append_left hid] at ho
  refine (hI.objs id o ho).keep hE.le hk trivial (fun _ => trivial) (fun _ _ => trivial) (fun e he _ => ?_)
  simp only [G.fresh]; rw [List.getElem?_append_left (List.getElem?_eq_some_iff.1 he).1]; exact he
 ·have hid' : id = σ.length := by
   have := (List.getElem?_eq_some_iff.1 ho).1; simp at this; omega
  subst hid'
  simp at ho; subst ho
  exact ⟨_, hμ, rfl, by simp [G.fresh, upd], fun o => hI.Φ_lt (Nat.le_refl _), #[], 0, heap_alloc_new w _, trivial⟩
theorem sim_makeMap (hT : TabOk P ⟨ty, GL⟩) {o : Oper} {t : TypeId} {r : Option Operand} (ho : o.op = .makeMap t r) (hI : Inv GL B0 w0 g s.env s.σ tm w) (hd : ∀ d, o.dst = some d → d < tm.size) {s' : S} (hs : stepOp0 ⟨⟨ty, GL⟩, H, C, h, base⟩ o s = some (.ok s')) :
 SimR GL B0 w0 g w s'.env s'.σ tm o.dst ((execOp (evT tm) o).run P w) := by
 unfold stepOp0 at hs
 rw [ho] at hs
 dsimp only at hs
 split at hs
 ·rename_i kt e hm
  injection hs with hs; injection hs with hs; subst hs
  obtain ⟨g', hI', hP, e1, he, ha, hb⟩ := hI.alloc_map kt
  have hr : (execOp (evT tm) o).run P w = .ok (.value (.map (some w.heap.size))) (w.alloc (.map #[] 0)) := by
   unfold execOp; rw [ho]
   simp [Instr.makeMap]
  refine SimR.mk' hr ?_ hP
  have hv : RelA g' (fun _ => False) (.mp s.σ.length) (.map (some w.heap.size)) := by
   unfold RelA; exact ⟨e1, he, ha, by rw [hb]⟩
  exact hI'.putO hd hv
 ·cases hs
theorem map_at (hI : Inv GL B0 w0 g s.env s.σ tm w) {x : Operand} {kt : Option IntKind} {kvs : List (Value × PV)} (hm : mapAt s.σ kt (rd ⟨ty, GL⟩ s.env x) = some kvs) :
 (evT tm x = .map none ∧ kvs = []) ∨ ∃ r es ck, evT tm x = .map (some r) ∧ w.heap[r]? = some (.map es ck) ∧ RelKV g.Φ kt kvs es.toList := by
 unfold mapAt at hm
 split at hm
 ·rename_i hx
  injection hm with hm
  exact .inl ⟨hI.lit hx, hm.symm⟩
 ·rename_i id hx
  split at hm
  ·rename_i kt' kvs' ho
   split at hm
   ·rename_i hk
    subst hk
    injection hm with hm; subst hm
    have hr := hI.rd (ty := ty) x
    rw [hx] at hr
    have hr := hr.any (fun _ => by simp)
    unfold RelA at hr
    obtain ⟨e, he, _, eV⟩ := hr
    obtain ⟨e', he', _, ht, hf, es, ck, hw, hkv⟩ := hI.objs id _ ho
    rw [he] at he'; injection he' with he'; subst he'
    exact .inr ⟨e.blk, es, ck, eV, hw, hkv⟩
   ·cases hm
  ·cases hm
 ·cases hm
theorem sim_lookup (hT : TabOk P ⟨ty, GL⟩) {o : Oper} {t : TypeId} {x i : Operand} {ok : Bool} (ho : o.op = .lookup t x i ok) (hI : Inv GL B0 w0 g s.env s.σ tm w) (hd : ∀ d, o.dst = some d → d < tm.size) {s' : S} (hs : stepOp0 ⟨⟨ty, GL⟩, H, C, h, base⟩ o s = some (.ok s')) :
 SimR GL B0 w0 g w s'.env s'.σ tm o.dst ((execOp (evT tm) o).run P w) := by
 unfold stepOp0 at hs
 rw [ho] at hs
 dsimp only at hs
 cases hv : lookupV ⟨ty, GL⟩ s.σ t (rd ⟨ty, GL⟩ s.env x) (rd ⟨ty, GL⟩ s.env i) ok with
 | none => rw [hv] at hs; cases hs
 | some v =>
  rw [hv] at hs
  injection hs with hs; injection hs with hs; subst hs
  unfold lookupV at hv
  split at hv
  ·rename_i kt e kk key hmt hkey
   split at hv
   ·rename_i hc
    obtain ⟨rfl, hz⟩ := hc
    split at hv
    ·rename_i kvs z hma hzp
     injection hv with hv; subst hv
     obtain ⟨hk1, hk2, hk3⟩ := keyOf_some hkey
     have eK : evT tm i = key := hI.lit hk1
     obtain ⟨kty, hu1, hu2⟩ := mapTy_ok hT hmt
     obtain ⟨zv, hzr, hzrel⟩ := zero_pick hT hz hzp g.Φ w
     have hik := isKey_kind hk2
     have fin : ∀ {es : Array MapEntry}, RelKV g.Φ kt kvs es.toList → (∀ (F : Option (Nat × Value)), (Instr.findKey kty key es.toList).run P w = .ok F w → (execOp (evT tm) o).run P w = .ok (.value (if ok = true then .tuple #[((F.map (·.2)).getD zv), .bool F.isSome] else (F.map (·.2)).getD zv)) w) →
      SimR GL B0 w0 g w (putE s.env o.dst (mapRes ok z (findKV key kvs))) s.σ tm o.dst ((execOp (evT tm) o).run P w) := by
      intro es hkv hrun
      rcases kv_find hk2 kvs es.toList 0 hkv with ⟨q1, q2, _⟩ | ⟨j, e', p, q1, _, _, q4, q5, _⟩
      ·refine SimR.value hI hd ?_ (hrun none (run_findKey hu2 q1))
       rw [q2]
       unfold mapRes
       cases ok with
       | false => exact RelA.of_p hzrel
       | true =>
        simp only [if_true, Option.map_none, Option.getD_none, Option.isSome_none]
        unfold RelA RelP
        exact ⟨[zv, .bool false], rfl, by unfold RelPL; exact ⟨zv, _, rfl, hzrel, by unfold RelPL; exact ⟨_, _, rfl, by unfold RelP; exact ⟨rfl, rfl⟩, by unfold RelPL; rfl⟩⟩⟩
      ·refine SimR.value hI hd ?_ (hrun _ (run_findKey hu2 q1))
       rw [q4]
       unfold mapRes
       cases ok with
       | false => exact RelA.of_p q5
       | true =>
        simp only [if_true, Option.map_some, Option.getD_some, Option.isSome_some]
        unfold RelA RelP
        exact ⟨[e'.val, .bool true], rfl, by unfold RelPL; exact ⟨e'.val, _, rfl, q5, by unfold RelPL; exact ⟨_, _, rfl, by unfold RelP; exact ⟨rfl, rfl⟩, by unfold RelPL; rfl⟩⟩⟩
     rcases map_at hI hma with ⟨eV, rfl⟩ | ⟨r, es, ck, eV, hw, hkv⟩
     ·refine fin (es := #[]) trivial fun F hF => ?_
      unfold execOp; rw [ho]
      have hck := run_checkKey (w := w) hu2 hik true 9999
      cases F with
      | none => cases ok <;> simp [Instr.lookup, run_underlying hu1, eV, eK, hck, hF, hzr]
      | some q => cases ok <;> simp [Instr.lookup, run_underlying hu1, eV, eK, hck, hF, hzr]
     ·refine fin hkv fun F hF => ?_
      unfold execOp; rw [ho]
      have hck := run_checkKey (w := w) hu2 hik es.isEmpty 9999
      cases F with
      | none => cases ok <;> simp [Instr.lookup, run_underlying hu1, eV, eK, hck, hF, hzr, MapKept.run_getObj_map hw]
      | some q => cases ok <;> simp [Instr.lookup, run_underlying hu1, eV, eK, hck, hF, hzr, MapKept.run_getObj_map hw]
    ·cases hv
   ·cases hv
  ·cases hv
theorem Inv.set_map (hI : Inv GL B0 w0 g env σ tm w) {id : Nat} {kt : Option IntKind} {kvs kvs' : List (Value × PV)} (ho : σ[id]? = some (.map kt kvs)) :
 ∃ e es ck, g.μ[id]? = some e ∧ w.heap[e.blk]? = some (.map es ck) ∧ RelKV g.Φ kt kvs es.toList ∧ ∀ (es' : Array MapEntry) (ck' : Nat), RelKV g.Φ kt kvs' es'.toList →
  Inv GL B0 w0 g env (σ.set id (.map kt kvs')) tm { w with heap := w.heap.setIfInBounds e.blk (.map es' ck') } ∧ Post g w g { w with heap := w.heap.setIfInBounds e.blk (.map es' ck') } := by
 obtain ⟨e, he, ha, ht, hf, es, ck, hw, hkv⟩ := hI.objs id _ ho
 refine ⟨e, es, ck, he, hw, hkv, fun es' ck' hkv' => ?_⟩
 have hset := heap_set (o' := .map es' ck') hw
 have hbl := hI.tlt _ _ ht
 have hother : ∀ b, b ≠ e.blk → ({ w with heap := w.heap.setIfInBounds e.blk (.map es' ck') } : World).heap[b]? = w.heap[b]? := fun b hb => hset.2 b hb
 have hsz : ({ w with heap := w.heap.setIfInBounds e.blk (.map es' ck') } : World).heap.size = w.heap.size := by simp
 have hk : KeepPl g g w { w with heap := w.heap.setIfInBounds e.blk (.map es' ck') } (fun p => p ≠ .obj id) := fun b pl hb hA => ⟨hb, rfl, fun _ h => h, hother b fun e' => by
  subst e'; rw [ht] at hb; injection hb with hb; exact hA hb.symm⟩
 refine ⟨⟨?_, ?_, fun b o u hu => ?_, fun b pl hb => ?_, fun b pl hb h1 h2 => ?_, hI.env, fun id' o' ho' => ?_, by simpa using hI.len, hI.glob, fun id e' he' => by rw [hsz]; exact hI.mlt id e' he'⟩, ⟨by rw [hsz]; exact Nat.le_refl _, Gle.refl _, fun b hb ht' => ⟨hother b (fun e' => by subst e'; rw [ht] at ht'; cases ht'), ht', rfl, fun _ => rfl⟩, fun b r hb => ?_⟩⟩
 ·exact hI.below.trans ⟨rfl, rfl, rfl, by rw [hsz]; exact Nat.le_refl _, fun k hk => hother k (by omega)⟩
 ·rw [hsz]; exact hI.base
 ·have hne : b ≠ e.blk := by intro e'; subst e'; rw [hf o] at hu; cases hu
  exact (World.cell?_of_block (w := w) (a := ⟨b, o, none⟩) (hother b hne)).trans (hI.fz b o u hu)
 ·rw [hsz]; exact hI.tlt b pl hb
 ·obtain ⟨D, ⟨el', hD⟩, hDs⟩ := hI.own b pl hb h1 h2
  have hne : b ≠ e.blk := by intro e'; subst e'; rw [ht] at hb; injection hb with hb; exact h1 _ hb.symm
  exact ⟨D, ⟨el', (hother b hne).trans hD⟩, hDs⟩
 ·by_cases hid : id = id'
  ·subst hid
   rw [List.getElem?_set_self (List.getElem?_eq_some_iff.1 ho).1] at ho'
   injection ho' with ho'; subst ho'
   exact ⟨e, he, ha, ht, hf, es', ck', hset.1, hkv'⟩
  ·rw [List.getElem?_set_ne hid] at ho'
   exact (hI.objs id' o' ho').keep (Gle.refl g) hk (by simp; exact fun e => hid e.symm) (fun _ => by simp) (fun _ _ => by simp) (fun e he _ => he)
 ·exact ⟨r, (hother b fun e' => by subst e'; rw [hw] at hb; cases hb).trans hb⟩
theorem sim_mapUpdate (hT : TabOk P ⟨ty, GL⟩) {o : Oper} {t : TypeId} {m k x : Operand} (ho : o.op = .mapUpdate t m k x) (hdn : o.dst = none) (hI : Inv GL B0 w0 g s.env s.σ tm w) {s' : S} (hs : stepOp0 ⟨⟨ty, GL⟩, H, C, h, base⟩ o s = some (.ok s')) :
 SimR GL B0 w0 g w s'.env s'.σ tm o.dst ((execOp (evT tm) o).run P w) := by
 unfold stepOp0 at hs
 rw [ho] at hs
 dsimp only at hs
 split at hs
 ·rename_i σ' hm
  injection hs with hs; injection hs with hs; subst hs
  obtain ⟨kt, e, key, id, p, kvs, h1, h2, h3, h4, h5, rfl⟩ := mapSet_some hm
  obtain ⟨hk1, hk2, hk3⟩ := keyOf_some h2
  have eK : evT tm k = key := hI.lit hk1
  obtain ⟨kty, hu1, hu2⟩ := mapTy_ok hT h1
  have hik := isKey_kind hk2
  have hx := nilX_relA (T := ⟨ty, GL⟩) e x (hI.rdc (ty := ty) x)
  rw [h4] at hx
  have hx : RelP g.Φ p (evT tm x) := by unfold RelA at hx; exact hx
  have hr := hI.rd (ty := ty) m
  rw [h3] at hr
  have hr := hr.any (fun _ => by simp)
  unfold RelA at hr
  obtain ⟨e1, he1, _, eV⟩ := hr
  obtain ⟨e2, es, ck, he2, hw, hkv, fin⟩ := hI.set_map (kvs' := setKV key p kvs) h5
  rw [he1] at he2; injection he2 with he2; subst he2
  have hck := run_checkKey (w := w) hu2 hik false 9999
  rcases kv_find hk2 kvs es.toList 0 hkv with ⟨q1, q2, q3⟩ | ⟨j, e', p', q1, q2, q3, q4, q5, q6⟩
  ·obtain ⟨hI', hP⟩ := fin (es.push { key, val := evT tm x, born := ck }) (ck + 1) (by
    rw [q3, Array.toList_push]
    exact kv_snoc (E := { key, val := evT tm x, born := ck }) rfl hk2 hx hkv)
   have hrun : (execOp (evT tm) o).run P w = .ok .skip { w with heap := w.heap.setIfInBounds e1.blk (.map (es.push { key, val := evT tm x, born := ck }) (ck + 1)) } := by
    unfold execOp; rw [ho]
    simp [Instr.mapUpdate, run_underlying hu1, eV, eK, MapKept.run_getObj_map hw, hck, run_findKey hu2 q1, MapKept.run_setObj_map _ hw]
   refine ⟨Go.undef, g, _, .inr ⟨hrun, rfl⟩, ?_, hP⟩
   rw [hdn]; exact hI'
  ·rw [Nat.zero_add] at q1
   have hj : es[j]? = some e' := by simpa using q2
   have hjl := (Array.getElem?_eq_some_iff.1 hj).1
   obtain ⟨hI', hP⟩ := fin (es.modify j fun e => { e with key, val := evT tm x }) ck (by
    rw [q6]
    have hmod : (es.modify j fun e => { e with key, val := evT tm x }).toList = es.toList.set j { e' with key, val := evT tm x } := by
     apply List.ext_getElem?
     intro i
     rw [Array.getElem?_toList, Array.getElem?_modify]
     by_cases e : j = i
     ·subst e
      rw [if_pos rfl, hj, List.getElem?_set_self (by simpa using hjl)]; rfl
     ·rw [if_neg e, List.getElem?_set_ne e, Array.getElem?_toList]
    rw [hmod]
    exact kv_set (E := { e' with key, val := evT tm x }) rfl hk2 hx j hkv)
   have hrun : (execOp (evT tm) o).run P w = .ok .skip { w with heap := w.heap.setIfInBounds e1.blk (.map (es.modify j fun e => { e with key, val := evT tm x }) ck) } := by
    unfold execOp; rw [ho]
    simp [Instr.mapUpdate, run_underlying hu1, eV, eK, MapKept.run_getObj_map hw, hck, run_findKey hu2 q1, hj, q3, run_keyThatStays hik, MapKept.run_setObj_map _ hw]
   refine ⟨Go.undef, g, _, .inr ⟨hrun, rfl⟩, ?_, hP⟩
   rw [hdn]; exact hI'
 ·cases hs
end
end Go.AM
