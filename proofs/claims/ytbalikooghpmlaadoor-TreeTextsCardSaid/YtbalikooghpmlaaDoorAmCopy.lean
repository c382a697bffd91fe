/- A part of the abstract machine and its simulation. -/
import Derived.Test.YtbalikooghpmlaaDoorAmMap
import Derived.Laws.CopyRow
set_option linter.unusedVariables false
set_option linter.unusedSimpArgs false
namespace Go.AM
open Go
section
variable {P : Program} {ty : List TI} {GL : List (Nat × List PV)} {H : FuncId → FH} {C : CallF} {h : FH} {base B0 : Nat} {w0 : World} {g : G} {w : World} {s : S} {env : Env} {σ : List AObj} {tm : Array Value}
theorem setRow_setRow (w : World) (b : Nat) (X Y : Array Value) : (w.setRow b X).setRow b Y = w.setRow b Y := by
 unfold World.setRow
 congr 1
 apply Array.ext_getElem?
 intro i
 rw [Array.getElem?_modify, Array.getElem?_modify, Array.getElem?_modify]
 by_cases e : b = i
 ·rw [if_pos e, if_pos e, if_pos e]
  cases w.heap[i]? with
  | none => rfl
  | some o => cases o <;> rfl
 ·rw [if_neg e, if_neg e, if_neg e]
theorem rows_put {α : Type} (rows ys : List α) (off : Nat) (y : α) (ho : off < rows.length) : (rows.set off y).take (off + 1) ++ ys ++ (rows.set off y).drop (off + 1 + ys.length) = rows.take off ++ (y :: ys) ++ rows.drop (off + (y :: ys).length) := by
 rw [List.drop_set_of_lt (by omega), List.take_succ_eq_append_getElem (by simpa using ho), List.take_set_of_le (Nat.le_refl off)]
 simp only [List.getElem_set_self, List.length_cons, List.append_assoc, List.cons_append, List.nil_append]
 congr 3
 congr 1
 omega
theorem drop_app {α : Type} (k : Nat) : ∀ (A B : List α), (A ++ B).drop (A.length + k) = B.drop k
 | [], B => by simp
 | a :: A, B => by
  rw [List.cons_append, List.length_cons, show A.length + 1 + k = (A.length + k) + 1 by omega, List.drop_succ_cons, drop_app k A B]
theorem Inv.putRows {id gen sz : Nat} {e : ME} (he : g.μ[id]? = some e) : ∀ (ys : List (List AV)) (news : List Value) (off : Nat) (rows : List (List AV)) (σ : List AObj) (w : World) (D : Array Value) (el : TypeId), Inv GL B0 w0 g env σ tm w → σ[id]? = some (.arr gen sz rows) → off + ys.length ≤ rows.length →
 RowsAt g sz ys news.toArray → news.length = ys.length * sz → w.heap[e.blk]? = some (.cells D el (0, 0)) →
 off * sz + news.length ≤ D.size ∧ Inv GL B0 w0 g env (σ.set id (.arr gen sz (rows.take off ++ ys ++ rows.drop (off + ys.length)))) tm (w.setRow e.blk (D.toList.take (off * sz) ++ news ++ D.toList.drop (off * sz + news.length)).toArray) ∧
  Post g w g (w.setRow e.blk (D.toList.take (off * sz) ++ news ++ D.toList.drop (off * sz + news.length)).toArray)
 | [], news, off, rows, σ, w, D, el, hI, h0, hl, hR, hn, hD => by
  obtain ⟨e', he', hea, heg, hesz, ht, hf, D0, ⟨el0, hD0⟩, hDs, hlr, hrl, hj⟩ := hI.objs id _ h0
  rw [he] at he'; injection he' with he'; subst he'
  rw [hD] at hD0; injection hD0 with hD0; injection hD0 with hD0; subst hD0
  have hnil : news = [] := List.length_eq_zero_iff.1 (by simpa using hn)
  subst hnil
  have hoff : off * sz ≤ rows.length * sz := Nat.mul_le_mul_right _ (by simpa using hl)
  have e1 : (D.toList.take (off * sz) ++ ([] : List Value) ++ D.toList.drop (off * sz + ([] : List Value).length)).toArray = D := by simp
  rw [e1, setRow_self w e.blk D el (0, 0) hD]
  have e2 : σ.set id (.arr gen sz (rows.take off ++ [] ++ rows.drop (off + ([] : List (List AV)).length))) = σ := by
   simp only [List.append_nil, List.length_nil, Nat.add_zero, List.take_append_drop]
   apply List.ext_getElem?
   intro i
   rw [List.getElem?_set]
   split
   ·rename_i e; subst e; rw [h0, if_pos (List.getElem?_eq_some_iff.1 h0).1]
   ·rfl
  rw [e2]
  exact ⟨by simp only [List.length_nil]; omega, hI, Post.refl g w⟩
 | y :: ys, news, off, rows, σ, w, D, el, hI, h0, hl, hR, hn, hD => by
  obtain ⟨e', he', hea, heg, hesz, ht, hf, D0, ⟨el0, hD0⟩, hDs, hlr, hrl, hj⟩ := hI.objs id _ h0
  rw [he] at he'; injection he' with he'; subst he'
  rw [List.length_cons] at hl hn
  have ho : off < rows.length := by omega
  have hrow : (rows[off]).length = sz := hrl _ (List.getElem_mem ho)
  obtain ⟨hy1, hy2⟩ := hR.2 0 y rfl
  have hsz : sz ≤ news.length := by rw [hn, Nat.add_mul, Nat.one_mul]; omega
  have hU : (news.take sz).length = sz := by rw [List.length_take]; omega
  have hv : RelA1 g y (news.take sz) := RelA1.mk (by rw [hy1, hU]) fun j c hc => by
   have hj := (List.getElem?_eq_some_iff.1 hc).1
   obtain ⟨u, hu, o1, r⟩ := hy2 j c hc
   refine ⟨u, ?_, o1, r⟩
   rw [List.getElem?_take, if_pos (by omega)]
   simpa using hu
  have ha : RelA g (fun _ => False) (.ep id gen off 0) (.pointer (some ⟨e.blk, off * e.sz + 0, none⟩)) := by
   unfold RelA
   exact ⟨e, he, hea, by omega, ⟨e.blk, off * e.sz + 0, none⟩, rfl, fun _ => rfl⟩
  have hr : readAt σ (.ep id gen off 0) = some (rows[off], 0) := by
   unfold readAt
   simp only [h0, beq_self_eq_true, if_true, List.getElem?_eq_getElem ho]
  obtain ⟨b, o, D1, el1, hV, hb, hfit, hI1, hP1⟩ := hI.store ha hr hv (by rw [hrow, hy1]; omega)
  have hbo : b = e.blk ∧ o = off * e.sz := by
   injection hV with hV; injection hV with hV; injection hV with h1 h2
   exact ⟨h1.symm, by omega⟩
  obtain ⟨rfl, rfl⟩ := hbo
  rw [hD] at hb; injection hb with hb; injection hb with hb hb2; subst hb
  have hes : e.sz = sz := hesz
  rw [hes, hU] at hfit
  rw [hes, hU] at hI1 hP1
  have hset : setCells rows[off] 0 y = y := by
   unfold setCells
   rw [List.take_zero, Nat.zero_add, List.drop_of_length_le (by rw [hrow, hy1]; exact Nat.le_refl _), List.append_nil, List.nil_append]
  have hw : writeAt σ (.ep id gen off 0) (setCells rows[off] 0 y) = σ.set id (.arr gen sz (rows.set off y)) := by
   unfold writeAt
   simp only [h0, hset]
  rw [hw] at hI1
  have hDlen : D.toList.length = D.size := rfl
  generalize hw1 : w.setRow e.blk (D.toList.take (off * sz) ++ news.take sz ++ D.toList.drop (off * sz + sz)).toArray = w1 at hI1 hP1
  have hheap1 : w1.heap[e.blk]? = some (.cells (D.toList.take (off * sz) ++ news.take sz ++ D.toList.drop (off * sz + sz)).toArray el (0, 0)) := by
   rw [← hw1]; exact setRow_heap w e.blk D _ el (0, 0) hD
  have hid : id < σ.length := (List.getElem?_eq_some_iff.1 h0).1
  have htk : (D.toList.take (off * sz)).length = off * sz := by rw [List.length_take]; omega
  obtain ⟨k1, k2, k3⟩ := Inv.putRows he ys (news.drop sz) (off + 1) (rows.set off y) (σ.set id (.arr gen sz (rows.set off y))) w1 _ el hI1 (List.getElem?_set_self hid) (by rw [List.length_set]; omega)
   ⟨by simp only [List.size_toArray, List.length_drop]; rw [hn, Nat.add_mul, Nat.one_mul]; omega, fun i r hi => by
    obtain ⟨q1, q2⟩ := hR.2 (i + 1) r (by rw [List.getElem?_cons_succ]; exact hi)
    refine ⟨q1, fun j c hc => ?_⟩
    obtain ⟨u, hu, o1, rr⟩ := q2 j c hc
    refine ⟨u, ?_, o1, rr⟩
    rw [List.getElem?_toArray] at hu ⊢
    rw [List.getElem?_drop, ← hu]
    congr 1
    rw [Nat.add_mul, Nat.one_mul]; omega⟩
   (by rw [List.length_drop, hn, Nat.add_mul, Nat.one_mul]; omega) hheap1
  have hoff1 : (off + 1) * sz = off * sz + sz := by rw [Nat.add_mul, Nat.one_mul]
  have hfin : ((D.toList.take (off * sz) ++ news.take sz ++ D.toList.drop (off * sz + sz)).toArray.toList.take ((off + 1) * sz) ++ news.drop sz ++ (D.toList.take (off * sz) ++ news.take sz ++ D.toList.drop (off * sz + sz)).toArray.toList.drop ((off + 1) * sz + (news.drop sz).length)).toArray
   = (D.toList.take (off * sz) ++ news ++ D.toList.drop (off * sz + news.length)).toArray := by
   congr 1
   rw [hoff1]
   have hA : (D.toList.take (off * sz) ++ news.take sz).length = off * sz + sz := by rw [List.length_append, htk, hU]
   simp only [List.toList_toArray]
   rw [List.take_left' hA, ← hA, drop_app, List.drop_drop, List.length_drop, List.append_assoc (D.toList.take (off * sz)), List.take_append_drop]
   congr 2
   omega
  have hwd : ∀ X, w1.setRow e.blk X = w.setRow e.blk X := fun X => by rw [← hw1, setRow_setRow]
  rw [hfin, hwd] at k2 k3
  rw [List.set_set, rows_put rows ys off y ho] at k2
  refine ⟨?_, k2, hP1.trans k3⟩
  rw [List.length_drop] at k1
  simp only [List.size_toArray, List.length_append, htk, hU, List.length_drop] at k1
  omega
theorem cutV_rel {g : G} {y yc : AV} {V : Value} {n m : Nat} (hr : RelA g (fun _ => False) y V) (hc : cutV n y = some yc) (hm : lenOf y = some m) (hn : n ≤ m) : ∃ a cap, V = .slice a m cap ∧ RelA g (fun _ => False) yc (.slice a n cap) := by
 unfold cutV at hc
 split at hc
 ·rename_i nl sz rows
  injection hc with hc; subst hc
  unfold lenOf at hm; injection hm with hm; subst hm
  unfold RelA RelP at hr
  obtain ⟨a, cap, rfl, hl, h1, h2, h3⟩ := hr
  refine ⟨a, cap, rfl, ?_⟩
  unfold RelA RelP
  have hlen : (rows.take n).length = n := by rw [List.length_take]; omega
  refine ⟨a, cap, by rw [hlen], by omega, (fun h => by cases h), (fun h => by cases h), ?_⟩
  rcases h3 with h | ⟨ad, rfl, h4, h5⟩
  ·exact .inl h
  ·refine .inr ⟨ad, rfl, h4, ?_⟩
   have h6 : ∀ (l : List (List PV)) (k : Nat) (b o : Nat), RelPR g.Φ sz l b o → RelPR g.Φ sz (l.take k) b o := by
    intro l
    induction l with
    | nil => intro k b o h; rw [List.take_nil]; exact h
    | cons r l ih =>
     intro k b o h
     cases k with
     | zero => unfold RelPR; trivial
     | succ k =>
      unfold RelPR at h
      rw [List.take_succ_cons]
      unfold RelPR
      exact ⟨h.1, h.2.1, ih k _ _ h.2.2⟩
   exact h6 _ _ _ _ h5
 ·rename_i id gn sz off len
  injection hc with hc; subst hc
  unfold lenOf at hm; injection hm with hm; subst hm
  unfold RelA at hr
  obtain ⟨e, h1, h2, h3, h4, ad, cap, rfl, hl, h5, h6⟩ := hr
  refine ⟨some ad, cap, rfl, ?_⟩
  unfold RelA
  exact ⟨e, h1, h2, h3, h4, ad, cap, by rw [Nat.min_eq_left hn], by omega, h5, h6⟩
 ·cases hc
theorem prows_len {σ : List AObj} {id g sz off len sz' : Nat} {ys : List (List PV)} (h : prowsOf σ (.ms id g sz off len) = some (sz', ys)) : ys.length = len := by
 simp only [prowsOf] at h
 split at h
 ·split at h
  ·rename_i hk
   simp only [Bool.and_eq_true, decide_eq_true_eq] at hk
   split at h
   ·rename_i l hl
    injection h with h; injection h with _ h
    have := allRows_len hl
    rw [h] at this
    rw [this, List.length_take, List.length_drop]; omega
   ·cases h
  ·cases h
 ·cases h
theorem sim_copy (hT : TabOk P ⟨ty, GL⟩) {o : Oper} {cl : Call} (ho : o.op = .call cl) (hcal : cl.callee = .builtin .copy) (hI : Inv GL B0 w0 g s.env s.σ tm w) (hd : ∀ d, o.dst = some d → d < tm.size) {s' : S} (hs : stepOp0 ⟨⟨ty, GL⟩, H, C, h, base⟩ o s = some (.ok s')) :
 SimR GL B0 w0 g w s'.env s'.σ tm o.dst ((execOp (evT tm) o).run P w) := by
 unfold stepOp0 at hs
 rw [ho] at hs
 dsimp only at hs
 rw [hcal] at hs
 dsimp only at hs
 split at hs
 ·rename_i x y t t' hargs htys
  split at hs
  ·rename_i e e' he he'
   split at hs
   case isFalse => cases hs
   rename_i hz
   obtain ⟨hno, hzl⟩ := zeroOk_ok hz
   obtain ⟨z0, hzr, hzs, hzrel, i, hi, hiz, hisz, hib⟩ := zero_rel hT hno hzl g w
   split at hs
   ·rename_i n σ' hcp
    injection hs with hs; injection hs with hs; subst hs
    have hux := slOf_ok hT he
    obtain ⟨id, gn, z, off, len, m, rows, yc, sz', ys, hx, hm, h0, hcut, hys, hlr, hsz, hn, hσ⟩ := copyS_some hcp
    have hy := hI.rdc (ty := ty) y
    obtain ⟨a, cap, hV, hyc⟩ := cutV_rel hy hcut hm (Nat.min_le_left m len)
    have hrs := prows_rows' hys
    have hylen : ys.length = min m len := by
     have q := hcut
     unfold cutV at q
     revert hys
     split at q
     ·rename_i nl sz0 rows0 hq
      injection q with q; subst q
      intro hys
      rw [hq] at hm
      unfold lenOf at hm; injection hm with hm
      unfold prowsOf at hys
      injection hys with hys; injection hys with _ hys
      rw [← hys, List.length_take]; omega
     ·rename_i id2 g2 sz2 off2 len2 hq
      injection q with q; subst q
      intro hys
      rw [hq] at hm
      unfold lenOf at hm; injection hm with hm
      rw [prows_len hys]; omega
     ·cases q
    obtain ⟨news, hS⟩ := src_of (P := P) (size := (Tab.at ⟨ty, GL⟩ e).size) hI hyc hrs (by simpa using hsz)
    have hxr := hI.rd (ty := ty) x
    rw [hx] at hxr
    have hxa : RelA g (fun _ => False) (.ms id gn z off len) (evT tm x) := hxr.any (fun cs q => by cases q)
    unfold RelA at hxa
    obtain ⟨me, hme, hma, hmg, hms, ad, cap2, hV0, hlc, hxx, hsp⟩ := hxa
    obtain ⟨me', hme', _, heg, hesz, ht, hf, D0, ⟨el, hD0⟩, hDs, hlr0, hrl, hj⟩ := hI.objs id _ h0
    rw [hme] at hme'; injection hme' with hme'; subst hme'
    have hlen2 : off + (ys.map (·.map AV.p)).length ≤ rows.length := by rw [List.length_map, hylen]; omega
    obtain ⟨hfit, hI2, hP2⟩ := hI.putRows hme (ys.map (·.map AV.p)) news off rows s.σ w D0 el h0 hlen2 hS.at_ hS.sz hD0
    have hlenV : (Builtin.lenOf (evT tm y)).run P w = .ok m w := by rw [hV]; simp [Builtin.lenOf]
    have hnmap : (ys.map (·.map AV.p)).length = min m len := by rw [List.length_map, hylen]
    have hfirst : (Builtin.firstCells i.size (min m len) (evT tm y)).run P w = .ok news.toArray w := by
     have := hS.first w rfl
     rw [hnmap, ← hisz] at this
     rw [hV]
     cases a with
     | none => exact this
     | some a => exact this
    have hrun : (execOp (evT tm) o).run P w = .ok (.value (goInt ((Nat.min m len : Nat) : Int))) (w.setRow me.blk (D0.toList.take (off * (Tab.at ⟨ty, GL⟩ e).size) ++ news ++ D0.toList.drop (off * (Tab.at ⟨ty, GL⟩ e).size + news.length)).toArray) := by
     have hst : (storeCells ad news).run P w = .ok () (w.setRow me.blk (D0.toList.take (off * (Tab.at ⟨ty, GL⟩ e).size) ++ news ++ D0.toList.drop (off * (Tab.at ⟨ty, GL⟩ e).size + news.length)).toArray) := by
      rcases Nat.eq_zero_or_pos cap2 with hz | hpos
      ·have h1 : min m len = 0 := by omega
       have h2 : news = [] := by
        have := hS.sz
        rw [hnmap, h1, Nat.zero_mul] at this
        exact List.length_eq_zero_iff.1 this
       subst h2
       have e1 : (D0.toList.take (off * (Tab.at ⟨ty, GL⟩ e).size) ++ ([] : List Value) ++ D0.toList.drop (off * (Tab.at ⟨ty, GL⟩ e).size + ([] : List Value).length)).toArray = D0 := by simp
       rw [e1, setRow_self w me.blk D0 el (0, 0) hD0]
       rfl
      ·obtain ⟨hada, _⟩ := hxx heg.symm hpos
       rw [hada, hesz]
       have := run_storeCells_at P me.blk (off * (Tab.at ⟨ty, GL⟩ e).size) el news 0 D0 w hD0 (by simpa using hfit) (fun u hu => by have := hS.one u hu; cases u <;> first | rfl | cases this)
       simp only [Nat.add_zero] at this
       exact this
     have e1 : cl.argTypes = #[t, t'] := Array.ext' htys
     have e2 : cl.args.map (evT tm) = #[evT tm x, evT tm y] := by apply Array.ext'; simp [hargs]
     rw [run_builtin ho hcal]
     have hcopy : (Builtin.copy_ #[t, t'] o.type #[evT tm x, evT tm y]).run P w = .ok (goInt ((Nat.min m len : Nat) : Int)) (w.setRow me.blk (D0.toList.take (off * (Tab.at ⟨ty, GL⟩ e).size) ++ news ++ D0.toList.drop (off * (Tab.at ⟨ty, GL⟩ e).size + news.length)).toArray) := by
      rw [hV0]
      simp [Builtin.copy_, run_underlying hux, hlenV, sizeOf, typeInfo, hi, hfirst, hst]
     simp only [builtin, e1, e2, Sem.run_bind, hcopy, Result.andThen_ok, Sem.run_pure]
    refine SimR.mk' hrun ?_ hP2
    rw [hσ, hn]
    rw [List.length_map] at hI2
    have hg : goInt ((Nat.min m len : Nat) : Int) = .int .i64 (ys.length : Int) := by rw [hylen]; rfl
    rw [hg]
    exact Inv.putO hI2 (by simpa using hd) (RelA.lit rfl)
   ·cases hs
  ·cases hs
 ·cases hs
end
end Go.AM
