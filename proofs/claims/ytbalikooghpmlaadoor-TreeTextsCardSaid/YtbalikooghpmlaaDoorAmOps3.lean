/- A part of the abstract machine and its simulation. -/
import Derived.Test.YtbalikooghpmlaaDoorAmOps2
set_option linter.unusedVariables false
set_option linter.unusedSimpArgs false
namespace Go.AM
open Go Go.RowKit
section
variable {GL : List (Nat × List PV)} {B0 : Nat} {w0 : World} {g : G} {s : S} {tm : Array Value} {w : World} {ty : List TI} {P : Program} {H : FuncId → FH} {C : CallF} {h : FH} {base : Nat}
theorem putT_size (tm : Array Value) (d : Option Nat) (V : Value) : (putT tm d V).size = tm.size := by cases d <;> simp [putT]
theorem SimR.mk' {env' : Env} {σ' : List AObj} {dst : Option Nat} {r : Result Next} {V : Value} {g' : G} {w' : World} (hr : r = .ok (.value V) w') (hI : Inv GL B0 w0 g' env' σ' (putT tm dst V) w') (hP : Post g w g' w') :
 SimR GL B0 w0 g w env' σ' tm dst r := ⟨V, g', w', .inl hr, hI, hP⟩
theorem Inv.putO {env : Env} {σ : List AObj} (hI : Inv GL B0 w0 g env σ tm w) {d : Option Nat} (hd : ∀ d', d = some d' → d' < tm.size) {v : AV} {V : Value} (hv : RelA g (fun _ => False) v V) :
 Inv GL B0 w0 g (putE env d v) σ (putT tm d V) w := by
 cases d with
 | none => exact hI
 | some d => exact hI.value (hd d rfl) (RelS.of_A hv)
theorem zero_rel (hT : TabOk P ⟨ty, GL⟩) {t : TypeId} (hd : (Tab.at ⟨ty, GL⟩ t).d ≠ .other) (hl : (Tab.at ⟨ty, GL⟩ t).zero.length = (Tab.at ⟨ty, GL⟩ t).size) (g : G) (w : World) :
 ∃ z, (zeroValue t).run P w = .ok z w ∧ z.cells.size = (Tab.at ⟨ty, GL⟩ t).size ∧ RelA1 g ((Tab.at ⟨ty, GL⟩ t).zero.map AV.p) z.cells.toList ∧ ∃ i, P.info? t = some i ∧ i.zero = some z ∧ i.size = (Tab.at ⟨ty, GL⟩ t).size ∧ i.bytes = (Tab.at ⟨ty, GL⟩ t).bytes := by
 obtain ⟨i, u, hi, hu, h1, h2, h3, h4⟩ := (hT.ty t hd).out
 obtain ⟨z, hz, hs, hr, _⟩ := h4 hl
 refine ⟨z, by simp [zeroValue, typeInfo, hi, hz], hs, ?_, i, hi, hz, h1, h2⟩
 obtain ⟨l, f⟩ := (hr g.Φ).get
 refine RelA1.mk (by simpa using l) fun k c hc => ?_
 rw [List.getElem?_map] at hc
 obtain ⟨c', hc', rfl⟩ := Option.map_eq_some_iff.1 hc
 obtain ⟨v, hv, o1, r⟩ := f k c' hc'
 exact ⟨v, hv, o1, RelA.of_p r⟩
theorem zero_relA (hT : TabOk P ⟨ty, GL⟩) {t : TypeId} (hd : (Tab.at ⟨ty, GL⟩ t).d ≠ .other) (hl : (Tab.at ⟨ty, GL⟩ t).zero.length = (Tab.at ⟨ty, GL⟩ t).size) (g : G) (w : World) :
 ∃ z, (zeroValue t).run P w = .ok z w ∧ z.cells.size = (Tab.at ⟨ty, GL⟩ t).size ∧ RelA1 g ((Tab.at ⟨ty, GL⟩ t).zero.map zA) z.cells.toList ∧ ∃ i, P.info? t = some i ∧ i.zero = some z ∧ i.size = (Tab.at ⟨ty, GL⟩ t).size ∧ i.bytes = (Tab.at ⟨ty, GL⟩ t).bytes := by
 obtain ⟨i, u, hi, hu, h1, h2, h3, h4⟩ := (hT.ty t hd).out
 obtain ⟨z, hz, hs, hr, hzc⟩ := h4 hl
 refine ⟨z, by simp [zeroValue, typeInfo, hi, hz], hs, ?_, i, hi, hz, h1, h2⟩
 obtain ⟨l, f⟩ := zCells_get hzc
 refine RelA1.mk (by simpa using l) fun k c hc => ?_
 rw [List.getElem?_map] at hc
 obtain ⟨c', hc', rfl⟩ := Option.map_eq_some_iff.1 hc
 obtain ⟨v, hv, hq⟩ := f k c' hc'
 exact ⟨v, hv, zA_rel hq g _⟩
theorem zero_relA' (hT : TabOk P ⟨ty, GL⟩) {t : TypeId} (hd : (Tab.at ⟨ty, GL⟩ t).d ≠ .other) (hl : (Tab.at ⟨ty, GL⟩ t).zero.length = (Tab.at ⟨ty, GL⟩ t).size) (g : G) {w : World} {z : Value} (hz : (zeroValue t).run P w = .ok z w) :
 RelA1 g ((Tab.at ⟨ty, GL⟩ t).zero.map zA) z.cells.toList := by
 obtain ⟨z', h1, _, h2, _⟩ := zero_relA hT hd hl g w
 rw [hz] at h1
 injection h1 with h1
 rw [h1]; exact h2
theorem zeroOk_ok {T : Tab} {t : TypeId} (h : zeroOk T t = true) : (T.at t).d ≠ .other ∧ (T.at t).zero.length = (T.at t).size := by
 unfold zeroOk at h
 split at h
 ·rename_i b hb
  exact ⟨TabOk.notOther hb, by simpa using h⟩
 ·cases h
theorem zero_nil (hT : TabOk P ⟨ty, GL⟩) {t : TypeId} (hd : (Tab.at ⟨ty, GL⟩ t).d ≠ .other) (hl : (Tab.at ⟨ty, GL⟩ t).zero.length = (Tab.at ⟨ty, GL⟩ t).size) {nl : Option Bool} {k : Nat} {rs : List (List PV)} (hz0 : (Tab.at ⟨ty, GL⟩ t).zero = [.sl nl k rs]) (w : World) :
 ∃ z, (zeroValue t).run P w = .ok z w ∧ z.cells.toList = [.slice none 0 0] := by
 obtain ⟨i, u, hi, hu, h1, h2, h3, h4⟩ := (hT.ty t hd).out
 obtain ⟨z, hz, hs, hr, hzc⟩ := h4 hl
 refine ⟨z, by simp [zeroValue, typeInfo, hi, hz], ?_⟩
 rw [hz0] at hzc
 obtain ⟨l, f⟩ := zCells_get hzc
 obtain ⟨v, hv, hq⟩ := f 0 _ rfl
 have hvn : v = .slice none 0 0 := by
  unfold zCell at hq
  split at hq <;> first | (cases hq; done) | skip
  all_goals (first | rfl | simp_all)
 subst hvn
 match hl' : z.cells.toList, l, hv with
 | [u], _, hv => injection hv with hv; rw [hv]
theorem sim_alloc (hT : TabOk P ⟨ty, GL⟩) {o : Oper} {t : TypeId} (ho : o.op = .alloc t) (hI : Inv GL B0 w0 g s.env s.σ tm w) (hd : ∀ d, o.dst = some d → d < tm.size) {s' : S} (hs : stepOp0 ⟨⟨ty, GL⟩, H, C, h, base⟩ o s = some (.ok s')) :
 SimR GL B0 w0 g w s'.env s'.σ tm o.dst ((execOp (evT tm) o).run P w) := by
 unfold stepOp0 at hs
 rw [ho] at hs
 dsimp only at hs
 split at hs
 ·rename_i hc
  obtain ⟨hno, hl⟩ := zeroOk_ok hc
  split at hs
  ·rename_i e n hk
   split at hs
   ·rename_i hfit
    injection hs with hs; injection hs with hs; subst hs
    obtain ⟨z, hz, _, hzr, _⟩ := zero_rel hT hno hl g w
    obtain ⟨l0, f0⟩ := hzr.get
    rw [List.length_map] at l0
    have hcl : (chunk (Tab.at ⟨ty, GL⟩ e).size n (Tab.at ⟨ty, GL⟩ t).zero).length = n := by unfold chunk; simp
    have hrow : ∀ (i : Nat) r, (chunk (Tab.at ⟨ty, GL⟩ e).size n (Tab.at ⟨ty, GL⟩ t).zero)[i]? = some r → i < n ∧ r = ((((Tab.at ⟨ty, GL⟩ t).zero.drop (i * (Tab.at ⟨ty, GL⟩ e).size)).take (Tab.at ⟨ty, GL⟩ e).size).map AV.p) := fun i r hi => by
     have hlt := (List.getElem?_eq_some_iff.1 hi).1
     rw [hcl] at hlt
     unfold chunk at hi
     rw [List.getElem?_map, List.getElem?_range hlt] at hi
     injection hi with hi
     exact ⟨hlt, hi.symm⟩
    have hmul : ∀ i, i < n → i * (Tab.at ⟨ty, GL⟩ e).size + (Tab.at ⟨ty, GL⟩ e).size ≤ (Tab.at ⟨ty, GL⟩ t).zero.length := fun i hi => by
     have : (i + 1) * (Tab.at ⟨ty, GL⟩ e).size ≤ n * (Tab.at ⟨ty, GL⟩ e).size := Nat.mul_le_mul_right _ hi
     rw [Nat.add_mul, Nat.one_mul] at this
     omega
    obtain ⟨g', hI', hP, hG, e1, he, ha, hgen, hsz, hb, _⟩ := hI.alloc_arr (rows := chunk (Tab.at ⟨ty, GL⟩ e).size n (Tab.at ⟨ty, GL⟩ t).zero) (sz := (Tab.at ⟨ty, GL⟩ e).size) (C := z.cells) (fun r hr => by
     obtain ⟨i, hi⟩ := List.mem_iff_getElem?.1 hr
     obtain ⟨q1, rfl⟩ := hrow i r hi
     have := hmul i q1
     simp only [List.length_map, List.length_take, List.length_drop]
     omega) (by rw [hcl]; rw [← Array.length_toList, ← l0]; exact hfit) t (fun i r j c hi hj => by
     obtain ⟨q1, rfl⟩ := hrow i r hi
     rw [List.getElem?_map] at hj
     obtain ⟨c', hc', rfl⟩ := Option.map_eq_some_iff.1 hj
     rw [List.getElem?_take] at hc'
     split at hc'
     ·rw [List.getElem?_drop] at hc'
      obtain ⟨u, hu, o1, ru⟩ := f0 (i * (Tab.at ⟨ty, GL⟩ e).size + j) (.p c') (by rw [List.getElem?_map, hc']; rfl)
      exact ⟨u, by simpa using hu, o1, ru⟩
     ·cases hc')
    have hr : (execOp (evT tm) o).run P w = .ok (.value (.pointer (some ⟨w.heap.size, 0, none⟩))) (w.alloc (.cells z.cells t)) := by
     unfold execOp; rw [ho]
     simp [Instr.alloc, hz, run_newVar]
    refine SimR.mk' hr ?_ hP
    have hv : RelA g' (fun _ => False) (.ep s.σ.length 0 0 0) (.pointer (some ⟨w.heap.size, 0, none⟩)) := by
     unfold RelA; exact ⟨e1, he, ha, by omega, _, rfl, fun _ => by rw [hb]; simp⟩
    exact hI'.putO hd hv
   ·cases hs
  split at hs
  ·injection hs with hs; injection hs with hs; subst hs
   obtain ⟨z, hz, hzr⟩ : ∃ z, (zeroValue t).run P w = .ok z w ∧ RelA1 g ((Tab.at ⟨ty, GL⟩ t).zero.map (zAF (fzO h o.dst))) z.cells.toList := by
    cases fzO h o.dst with
    | false => obtain ⟨z, hz, _, hzr, _⟩ := zero_relA hT hno hl g w; exact ⟨z, hz, hzr⟩
    | true => obtain ⟨z, hz, _, hzr, _⟩ := zero_rel hT hno hl g w; exact ⟨z, hz, hzr⟩
   obtain ⟨g', hI', hP, hG, ⟨e, he, ha, hb⟩, _⟩ := hI.alloc_cells hzr t
   have hr : (execOp (evT tm) o).run P w = .ok (.value (.pointer (some ⟨w.heap.size, 0, none⟩))) (w.alloc (.cells z.cells t)) := by
    unfold execOp; rw [ho]
    simp [Instr.alloc, hz, run_newVar]
   refine SimR.mk' hr ?_ hP
   have hv : RelA g' (fun _ => False) (.ptr s.σ.length 0) (.pointer (some ⟨w.heap.size, 0, none⟩)) := by
    unfold RelA; exact ⟨e, he, ha, by rw [hb]⟩
   exact hI'.putO hd hv
  ·rename_i k hk
   injection hs with hs; injection hs with hs; subst hs
   obtain ⟨hne, nl, rs, hzz⟩ : s.σ ≠ [] ∧ ∃ nl rs, (Tab.at ⟨ty, GL⟩ t).zero = [.sl nl k rs] := by
    unfold allocN at hk
    split at hk
    ·split at hk
     ·split at hk
      ·cases hk
      ·rename_i h0
       unfold nilK at hk
       split at hk
       ·rename_i nl k' rs hz
        injection hk with hk; subst hk
        exact ⟨by rw [h0]; simp, nl, rs, hz⟩
       ·cases hk
     ·cases hk
    ·cases hk
   obtain ⟨z, hz, hzv⟩ := zero_nil hT hno hl hzz w
   obtain ⟨g1, hI1, hG1, hP1, e1, he1, ha1⟩ := hI.push_dead k hne
   have hzr : RelA1 g1 [.nms s.σ.length k] z.cells.toList := by
    rw [hzv]
    unfold RelA1
    exact ⟨_, [], rfl, rfl, by unfold RelA; exact ⟨e1, he1, ha1, rfl⟩, by unfold RelA1; rfl⟩
   obtain ⟨g', hI', hP, hG, ⟨e, he, ha, hb⟩, _⟩ := hI1.alloc_cells hzr t
   have hr : (execOp (evT tm) o).run P w = .ok (.value (.pointer (some ⟨w.heap.size, 0, none⟩))) (w.alloc (.cells z.cells t)) := by
    unfold execOp; rw [ho]
    simp [Instr.alloc, hz, run_newVar]
   refine SimR.mk' hr ?_ (hP1.trans hP)
   have hv : RelA g' (fun _ => False) (.ptr (s.σ.length + 1) 0) (.pointer (some ⟨w.heap.size, 0, none⟩)) := by
    unfold RelA; exact ⟨e, by simpa using he, ha, by rw [hb]⟩
   have hI2 := hI'.putO hd hv
   simp only [List.append_assoc, List.cons_append, List.nil_append, List.length_append] at hI2
   exact hI2
 ·cases hs
theorem sim_assign {o : Oper} {x : Operand} (ho : o.op = .assign x) (hI : Inv GL B0 w0 g s.env s.σ tm w) (hd : ∀ d, o.dst = some d → d < tm.size) {s' : S} (hs : stepOp0 ⟨⟨ty, GL⟩, H, C, h, base⟩ o s = some (.ok s')) :
 SimR GL B0 w0 g w s'.env s'.σ tm o.dst ((execOp (evT tm) o).run P w) := by
 cases hk : asgN ⟨ty, GL⟩ h o.type s.σ x o.dst with
 | none => exact sim_assign0 ho hk hI hd hs
 | some k =>
  unfold stepOp0 at hs
  rw [ho] at hs
  dsimp only at hs
  rw [hk] at hs
  injection hs with hs; injection hs with hs; subst hs
  have hr := eval_assign (P := P) (w := w) (evT tm) o x ho
  obtain ⟨hne, hx⟩ : s.σ ≠ [] ∧ x = .const (.slice none 0 0) := by
   unfold asgN at hk
   split at hk
   ·split at hk
    ·split at hk
     ·split at hk
      ·cases hk
      ·rename_i h0
       exact ⟨(fun e => by rw [e] at h0; exact h0 rfl), rfl⟩
     ·cases hk
    ·cases hk
   ·cases hk
  obtain ⟨g1, hI1, hG1, hP1, e1, he1, ha1⟩ := hI.push_dead k hne
  subst hx
  have hv : RelA g1 (fun _ => False) (.nms s.σ.length k) (.slice none 0 0) := by
   unfold RelA; exact ⟨e1, he1, ha1, rfl⟩
  exact SimR.mk' hr (hI1.putO hd hv) hP1
theorem run_box (t : TypeId) (v : Value) (w : World) : (Instr.box t v).run P w = .ok (.pointer (some ⟨w.heap.size, 0, none⟩)) (w.alloc (.cells v.cells t)) := by
 simp [Instr.box, run_newVar]
theorem storable_copy {v : AV} (hs : storable v = true) : storable (copyV v) = true := by cases v <;> first | exact hs | rfl
theorem cellsOf_owns {v : AV} (h : owns v = true) : cellsOf v = [v] := by cases v <;> first | rfl | cases h
theorem cellsOf_copy_owns {v : AV} (h : owns v = true) : cellsOf (copyV v) = [copyV v] := by
 cases v with
 | own sz rows => rfl
 | asl ow sz rows => rfl
 | _ => cases h
theorem RelX.free {x : Operand} {v : AV} {V : Value} (hx : RelX g x v V) (hv : owns v = false) (hs : storable v = true) : RelA g (fun _ => False) v V := by
 cases x with
 | tmp t =>
  unfold RelX at hx
  cases v with
  | tup cs => cases hs
  | undef => cases hs
  | _ => exact RelA.free (tg := fun b => g.tag b = some (.slot t)) hx hv
 | _ => exact hx
theorem owns_tmp {env : Env} {x : Operand} (h : owns (rd ⟨ty, GL⟩ env x) = true) : ∃ t, x = .tmp t := by
 cases x with
 | tmp t => exact ⟨t, rfl⟩
 | const v =>
  exfalso
  simp only [rd, ofConst] at h
  split at h
  ·split at h <;> cases h
  ·split at h <;> cases h
 | global k => exfalso; simp only [rd] at h; split at h <;> cases h
 | func f => cases h
theorem sim_box {o : Oper} {t : TypeId} {x : Operand} (ho : o.op = .box t x) (hI : Inv GL B0 w0 g s.env s.σ tm w) (hd : ∀ d, o.dst = some d → d < tm.size) (hdx : ∀ d, o.dst = some d → x ≠ .tmp d) {s' : S} (hs : stepOp0 ⟨⟨ty, GL⟩, H, C, h, base⟩ o s = some (.ok s')) :
 SimR GL B0 w0 g w s'.env s'.σ tm o.dst ((execOp (evT tm) o).run P w) := by
 unfold stepOp0 at hs
 rw [ho] at hs
 dsimp only at hs
 split at hs
 ·rename_i hc
  obtain ⟨hl, hst⟩ := hc
  injection hs with hs; injection hs with hs; subst hs
  have hx := hI.rdM (ty := ty) h x
  have hmo := mv_owns (GL := GL) (ty := ty) (h := h) (env := s.env) (x := x)
  generalize hv0 : mvV ⟨ty, GL⟩ h s.env x = v at *
  have hr : (execOp (evT tm) o).run P w = .ok (.value (.pointer (some ⟨w.heap.size, 0, none⟩))) (w.alloc (.cells (evT tm x).cells t)) := by
   unfold execOp; rw [ho]; simp [run_box]
  have fin : ∀ {env : Env} {σ : List AObj} {g' : G}, Inv GL B0 w0 g' env σ tm (w.alloc (.cells (evT tm x).cells t)) → (∃ e, g'.μ[s.σ.length]? = some e ∧ e.arr = false ∧ e.blk = w.heap.size) → Post g w g' (w.alloc (.cells (evT tm x).cells t)) →
   SimR GL B0 w0 g w (putE env o.dst (AV.ptr s.σ.length 0)) σ tm o.dst ((execOp (evT tm) o).run P w) := by
   intro env σ g' hI' ⟨e, he, ha, hb⟩ hP
   refine SimR.mk' hr ?_ hP
   have hvp : RelA g' (fun _ => False) (.ptr s.σ.length 0) (.pointer (some ⟨w.heap.size, 0, none⟩)) := by
    unfold RelA; exact ⟨e, he, ha, by rw [hb]⟩
   exact hI'.putO hd hvp
  cases ho1 : owns v with
  | false =>
   have hc := cellsOf_rel (hx.free ho1 hst) hst
   obtain ⟨g', hI', hP, hG, hm, _⟩ := hI.alloc_cells (C := (evT tm x).cells) hc t
   exact fin (hI'.strippedM h x) hm hP
  | true =>
   obtain ⟨em, es⟩ := hmo ho1
   obtain ⟨tx, rfl⟩ := owns_tmp (ty := ty) (by rw [← em]; exact ho1)
   have hcopy : RelA g (fun _ => False) (copyV v) (evT tm (.tmp tx)) := by
    have := hx.copy
    cases v with
    | own sz rows => exact this
    | asl ow sz rows => exact this
    | _ => cases ho1
   have h1 : one (evT tm (.tmp tx)) = true := one_owns (hx.any (fun cs e => by subst e; cases ho1)) ho1
   have hc : RelA1 g [copyV v] (evT tm (.tmp tx)).cells.toList := by
    rw [← cellsOf_copy_owns ho1]; exact cellsOf_rel hcopy (storable_copy hst)
   obtain ⟨g1, hI1, hP1, hG1, ⟨e, he, ha, hb⟩, _⟩ := hI.alloc_cells (C := (evT tm (.tmp tx)).cells) hc t
   have hpt : RelA g1 (fun _ => False) (.ptr s.σ.length 0) (.pointer (some ⟨w.heap.size, 0, none⟩)) := by unfold RelA; exact ⟨e, he, ha, by rw [hb]⟩
   obtain ⟨g2, hI2, hP2, hμ2⟩ := hI1.hand (a := .ptr s.σ.length 0) hpt (cs := [copyV v]) (off := 0) (by simp [readAt]) (x := tx) (v := v) em.symm ho1
    ⟨w.heap.size, 0, rfl, by rw [cell_of_row _ _ 0 _ t (0, 0) (heap_alloc_new w _), cells_one h1]; simp [evT]⟩ (by simp)
   have hσ : writeAt (s.σ ++ [AObj.cells [copyV v]]) (.ptr s.σ.length 0) ([copyV v].set 0 v) = s.σ ++ [AObj.cells (cellsOf v)] := by
    rw [cellsOf_owns ho1]; simp [writeAt]
   rw [hσ, ← es] at hI2
   exact fin hI2 ⟨e, by rw [hμ2]; exact he, ha, hb⟩ (hP1.trans hP2)
 ·cases hs
end
end Go.AM
