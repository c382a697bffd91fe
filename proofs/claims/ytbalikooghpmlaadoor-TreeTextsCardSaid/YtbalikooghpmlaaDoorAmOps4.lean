/- A part of the abstract machine and its simulation. -/
import Derived.Test.YtbalikooghpmlaaDoorAmOps3
set_option linter.unusedVariables false
set_option linter.unusedSimpArgs false
namespace Go.AM
open Go Go.RowKit
section
variable {GL : List (Nat × List PV)} {B0 : Nat} {w0 : World} {g : G} {s : S} {tm : Array Value} {w : World} {ty : List TI} {P : Program} {H : FuncId → FH} {C : CallF} {h : FH} {base : Nat}
theorem RelX.weak {x : Operand} {v : AV} {V : Value} (hx : RelX g x v V) (hv : ∀ cs, v ≠ .tup cs) : ∃ tg, RelA g tg v V := ⟨_, hx.any hv⟩
theorem readAt_notTup {σ : List AObj} {a : AV} {r : List AV × Nat} (h : readAt σ a = some r) : ∀ cs, a ≠ .tup cs := fun cs e => by subst e; simp [readAt] at h
theorem addr_add (b o n : Nat) : (⟨b, o, none⟩ : Addr).add n = ⟨b, o + n, none⟩ := by
 unfold Addr.add
 split
 ·rename_i e; subst e; rfl
 ·rfl
theorem sim_store (hT : TabOk P ⟨ty, GL⟩) {o : Oper} {t : TypeId} {x y : Operand} (ho : o.op = .store t x y) (hdn : o.dst = none) (hI : Inv GL B0 w0 g s.env s.σ tm w) {s' : S} (hs : stepOp0 ⟨⟨ty, GL⟩, H, C, h, base⟩ o s = some (.ok s')) :
 SimR GL B0 w0 g w s'.env s'.σ tm o.dst ((execOp (evT tm) o).run P w) := by
 unfold stepOp0 at hs
 rw [ho] at hs
 dsimp only at hs
 split at hs
 ·rename_i cs off hr
  split at hs
  ·rename_i hc
   simp only [Bool.and_eq_true, decide_eq_true_eq] at hc
   obtain ⟨⟨⟨⟨hno, hst⟩, hfit⟩, hsz⟩, hbase⟩ := hc
   injection hs with hs; injection hs with hs; subst hs
   have hd : (Tab.at ⟨ty, GL⟩ t).d ≠ .other := by
    intro e; rw [e] at hno; cases hno
   have hx := hI.rd (ty := ty) x
   obtain ⟨tgx, hxa⟩ := hx.weak (readAt_notTup hr)
   have hy := hI.rdM (ty := ty) h y
   have hmo := mv_owns (GL := GL) (ty := ty) (h := h) (env := s.env) (x := y)
   generalize hv0 : mvV ⟨ty, GL⟩ h s.env y = v at *
   generalize ha0 : rd ⟨ty, GL⟩ s.env x = a at *
   have run : ∀ {b o' : Nat} {Cc : Array Value} {el : TypeId}, evT tm x = .pointer (some ⟨b, o', none⟩) → w.heap[b]? = some (.cells Cc el (0, 0)) → o' + (evT tm y).cells.toList.length ≤ Cc.size → (evT tm y).cells.size = (Tab.at ⟨ty, GL⟩ t).size → (∀ u ∈ (evT tm y).cells.toList, one u = true) →
    (execOp (evT tm) o).run P w = .ok .skip (w.setRow b (Cc.toList.take o' ++ (evT tm y).cells.toList ++ Cc.toList.drop (o' + (evT tm y).cells.toList.length)).toArray) := by
    intro b o' Cc el eV hb hf hs1 h1
    have hst := run_storeVar hT hd hb hs1 (by simpa using hf) h1
    unfold execOp; rw [ho]
    simp only [eV]
    simp only [Instr.storeAt, Instr.sureAddr, Sem.run_bind, Sem.run_pure, Result.andThen_ok, hst]
    simp
   have h1s : ∀ {vs : List AV}, RelA1 g vs (evT tm y).cells.toList → (∀ u ∈ (evT tm y).cells.toList, one u = true) ∧ vs.length = (evT tm y).cells.size := by
    intro vs hv
    obtain ⟨l, f⟩ := hv.get
    refine ⟨fun u hu => ?_, by simpa using l⟩
    obtain ⟨i, hi, rfl⟩ := List.mem_iff_getElem.1 hu
    obtain ⟨u', hu', o1, _⟩ := f i (vs[i]'(by omega)) (List.getElem?_eq_getElem _)
    rw [List.getElem?_eq_getElem hi] at hu'
    injection hu' with hu'; subst hu'; exact o1
   cases ho1 : owns v with
   | false =>
    have hv := cellsOf_rel (hy.free ho1 hst) hst
    obtain ⟨b, o', Cc, el, eV, hb, hf, hI', hP⟩ := hI.store hxa hr hv (by omega)
    have hr1 := run eV hb hf (by rw [← (h1s hv).2]; exact hsz) (h1s hv).1
    refine ⟨Go.undef, g, _, .inr ⟨hr1, rfl⟩, ?_, hP⟩
    rw [hdn]
    exact hI'.strippedM h y
   | true =>
    obtain ⟨em, esm⟩ := hmo ho1
    obtain ⟨ty', rfl⟩ := owns_tmp (ty := ty) (by rw [← em]; exact ho1)
    have hcopy : RelA g (fun _ => False) (copyV v) (evT tm (.tmp ty')) := by
     have := hy.copy
     cases v with
     | own sz rows => exact this
     | asl ow sz rows => exact this
     | _ => cases ho1
    have h1 : one (evT tm (.tmp ty')) = true := one_owns (hy.any (fun cs e => by subst e; cases ho1)) ho1
    have hv : RelA1 g [copyV v] (evT tm (.tmp ty')).cells.toList := by
     rw [← cellsOf_copy_owns ho1]; exact cellsOf_rel hcopy (storable_copy hst)
    rw [cellsOf_owns ho1] at hfit hsz
    simp only [List.length_singleton] at hfit hsz
    obtain ⟨b, o', Cc, el, eV, hb, hf, hI', hP⟩ := hI.store hxa hr hv (by simp; omega)
    have hr1 := run eV hb hf (by rw [← (h1s hv).2]; exact hsz) (h1s hv).1
    have hcell := setRow_heap w b Cc (Cc.toList.take o' ++ (evT tm (.tmp ty')).cells.toList ++ Cc.toList.drop (o' + (evT tm (.tmp ty')).cells.toList.length)).toArray el (0, 0) hb
    have hlen : (setCells cs off [copyV v]).length = cs.length := setCells_len _ _ _ (by simp; omega)
    obtain ⟨g2, hI2, hP2, _⟩ := hI'.hand hxa (readAt_write hr (setCells cs off [copyV v])) (x := ty') (v := v) em.symm ho1
     ⟨b, o', eV, by
      rw [cell_of_row _ b o' _ el (0, 0) hcell, List.getElem?_toArray, laid_get _ _ _ hf, if_neg (Nat.lt_irrefl _)]
      rw [cells_one h1] at hf ⊢
      simp [evT]⟩ (by rw [hlen]; omega)
    refine ⟨Go.undef, g2, _, .inr ⟨hr1, rfl⟩, ?_, hP.trans hP2⟩
    rw [hdn]
    rw [writeAt_twice _ _ _ _ hr] at hI2
    have e : (setCells cs off [copyV v]).set off v = setCells cs off (cellsOf v) := by
     rw [cellsOf_owns ho1]
     apply List.ext_getElem?
     intro j
     by_cases hj : off = j
     ·subst hj
      rw [List.getElem?_set_self (by rw [hlen]; omega), setCells_get _ _ _ (by simp; omega)]
      simp
     ·rw [List.getElem?_set_ne hj, setCells_get _ _ _ (by simp; omega), setCells_get _ _ _ (by simp; omega)]
      simp only [List.length_singleton]
      split
      ·rfl
      ·rw [if_neg (by omega), if_neg (by omega)]
    rw [e, ← esm] at hI2
    exact hI2
  ·cases hs
 ·cases hs
end
end Go.AM
