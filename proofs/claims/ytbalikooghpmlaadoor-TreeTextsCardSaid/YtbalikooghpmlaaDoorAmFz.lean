/- A part of the abstract machine and its simulation. -/
import Derived.Test.YtbalikooghpmlaaDoorAmOps16
set_option linter.unusedVariables false
set_option linter.unusedSimpArgs false
namespace Go.AM
open Go Go.RowKit
section
variable {GL : List (Nat × List PV)} {B0 : Nat} {w0 : World} {g : G} {env : Env} {σ : List AObj} {s : S} {tm : Array Value} {w : World} {ty : List TI} {P : Program} {H : FuncId → FH} {C : CallF} {h : FH} {base : Nat}
theorem Inv.freeze (hI : Inv GL B0 w0 g env σ tm w) {id gen sz : Nat} {rows : List (List AV)} (h0 : σ[id]? = some (.arr gen sz rows)) {e : ME} (he : g.μ[id]? = some e) :
 ∃ g', Inv GL B0 w0 g' env (σ.set id .gone) tm w ∧ Post g w g' w ∧ (∀ o, g'.Φ e.blk o = w.cell? ⟨e.blk, o, none⟩) := by
 obtain ⟨e', he', hea, heg, hesz, ht, hf, D, hD, hDs, hl, hrl, hj⟩ := hI.objs id _ h0
 rw [he] at he'; injection he' with he'; subst he'
 have hidl : id < g.μ.length := (List.getElem?_eq_some_iff.1 he).1
 have hne : ∀ b pl, g.tag b = some pl → pl ≠ .obj id → b ≠ e.blk := fun b pl hb hp hE => by
  subst hE; rw [ht] at hb; injection hb with hb; exact hp hb.symm
 have htu : ∀ b pl, upd g.tag e.blk none b = some pl → g.tag b = some pl ∧ b ≠ e.blk := fun b pl hb => by
  by_cases hE : b = e.blk
  ·subst hE; rw [upd_self] at hb; cases hb
  ·rw [upd_ne _ _ hE] at hb; exact ⟨hb, hE⟩
 let g' : G := ⟨fun b o => if b = e.blk then w.cell? ⟨b, o, none⟩ else g.Φ b o, g.bs, g.μ.set id ⟨e.gen + 1, e.blk, 0, true⟩, upd g.tag e.blk none⟩
 have hμs : g'.μ[id]? = some ⟨e.gen + 1, e.blk, 0, true⟩ := List.getElem?_set_self hidl
 have hμn : ∀ id', id ≠ id' → g'.μ[id']? = g.μ[id']? := fun id' hid => List.getElem?_set_ne hid
 have hΦ : MemLe g.Φ g'.Φ := fun b o u hu => by
  show (if b = e.blk then _ else _) = _
  by_cases hE : b = e.blk
  ·subst hE; rw [hf] at hu; cases hu
  ·rw [if_neg hE]; exact hu
 have hΦn : ∀ b o, b ≠ e.blk → g'.Φ b o = g.Φ b o := fun b o hE => if_neg hE
 have hG : Gle g g' := by
  refine ⟨hΦ, fun id' e' he' => ?_⟩
  by_cases hid : id = id'
  ·subst hid
   rw [he] at he'; injection he' with he'; subst he'
   exact ⟨_, hμs, by rw [hea], by simp, fun h => by simp at h, fun h => by rw [hea] at h; cases h⟩
  ·exact ⟨e', by rw [hμn id' hid]; exact he', rfl, Nat.le_refl _, fun _ => ⟨rfl, rfl, fun _ => rfl⟩, fun _ => rfl⟩
 have hK : KeepPl g g' w w (fun p => p ≠ .obj id) := fun b pl hb hA => by
  have hE := hne b pl hb hA
  exact ⟨(upd_ne _ _ hE).trans hb, rfl, fun o ho => (hΦn b o hE).trans ho, rfl⟩
 refine ⟨g', ⟨hI.below, hI.base, fun b o u hu => ?_, fun b pl hb => hI.tlt b pl (htu b pl hb).1, fun b pl hb h1 h2 => hI.own b pl (htu b pl hb).1 h1 h2, fun t => (hI.env t).keep hG hK (by simp) (fun _ => by simp), fun id' ob hob => ?_, by simpa [g'] using hI.len, fun k cs hk => (hI.glob k cs hk).mono hΦ _ _ _, fun id' e' he' => ?_⟩, ⟨Nat.le_refl _, hG, fun b hb ht' => ?_, fun _ r h => ⟨r, h⟩⟩, fun o => if_pos rfl⟩
 ·by_cases hE : b = e.blk
  ·subst hE
   have : g'.Φ e.blk o = w.cell? ⟨e.blk, o, none⟩ := if_pos rfl
   rw [← this]; exact hu
  ·rw [hΦn b o hE] at hu; exact hI.fz b o u hu
 ·by_cases hid : id = id'
  ·subst hid
   rw [List.getElem?_set_self (List.getElem?_eq_some_iff.1 h0).1] at hob
   injection hob with hob; subst hob
   exact ⟨_, hμs, rfl, rfl⟩
  ·rw [List.getElem?_set_ne hid] at hob
   exact (hI.objs id' ob hob).keep hG hK (by simpa using Ne.symm hid) (fun _ => by simp) (fun _ _ => by simp) (fun e' he' _ => by rw [hμn id' hid]; exact he')
 ·by_cases hid : id = id'
  ·subst hid
   rw [hμs] at he'
   injection he' with he'; subst he'
   exact hI.mlt id e he
  ·rw [hμn id' hid] at he'
   exact hI.mlt id' e' he'
 ·have hE : b ≠ e.blk := fun hE => by subst hE; rw [ht] at ht'; cases ht'
  exact ⟨rfl, (upd_ne _ _ hE).trans ht', rfl, fun o => hΦn b o hE⟩
theorem allPure_get : ∀ {l : List AV} {ps : List PV}, allPure l = some ps → l = ps.map AV.p
 | [], ps, h => by injection h with h; subst h; rfl
 | .p v :: l, ps, h => by
  unfold allPure at h
  cases hl : allPure l with
  | none => rw [hl] at h; cases h
  | some q => rw [hl] at h; injection h with h; subst h; rw [allPure_get hl]; rfl
 | .undef :: _, _, h | .own .. :: _, _, h | .agg _ :: _, _, h | .tup _ :: _, _, h | .asl .. :: _, _, h | .ap _ :: _, _, h | .ms .. :: _, _, h | .ptr .. :: _, _, h | .ep .. :: _, _, h | .mp _ :: _, _, h | .fn .. :: _, _, h | .yld _ :: _, _, h | .nms .. :: _, _, h | .ifc .. :: _, _, h => by cases h
theorem allRows_get : ∀ {l : List (List AV)} {ps : List (List PV)}, allRows l = some ps → l = ps.map (·.map AV.p)
 | [], ps, h => by injection h with h; subst h; rfl
 | r :: l, ps, h => by
  unfold allRows at h
  split at h
  ·rename_i q qs h1 h2
   injection h with h; subst h
   rw [allPure_get h1, allRows_get h2]; rfl
  ·cases h
theorem copyR_eq : ∀ rows : List (List AV), copyR rows = rows.map copyL
 | [] => rfl
 | r :: rs => by rw [copyR, copyR_eq rs]; rfl
theorem Inv.freezeV (hI : Inv GL B0 w0 g env σ tm w) {v : AV} {V : Value} {tg : Nat → Prop} (hr : RelA g tg v V) {p : PV} {σ' : List AObj} (hf : frzV base σ v = some (p, σ')) :
 ∃ g', Inv GL B0 w0 g' env σ' tm w ∧ Post g w g' w ∧ RelP g'.Φ p V := by
 unfold frzV at hf
 split at hf
 case h_2 => cases hf
 rename_i id gn z off len
 split at hf
 case isFalse => cases hf
 split at hf
 case h_2 => cases hf
 rename_i gn' sz rows ho
 split at hf
 case isFalse => cases hf
 rename_i hc
 simp only [Bool.and_eq_true, beq_iff_eq, decide_eq_true_eq] at hc
 obtain ⟨rfl, hfit⟩ := hc
 split at hf
 case h_2 => cases hf
 rename_i l hl
 injection hf with hf; injection hf with h1 h2; subst h1; subst h2
 have hl := allRows_get hl
 unfold RelA at hr
 obtain ⟨e, he, _, hg, hes, ad, cap, eV, hlen, hx, hsp⟩ := hr
 obtain ⟨e', he', _, hgen, hsz, ht, hff, D, hD, hDs, hlr, hrl, hj⟩ := hI.objs id _ ho
 rw [he] at he'; injection he' with he'; subst he'
 obtain ⟨g', hI', hP, hΦ⟩ := hI.freeze ho he
 refine ⟨g', hI', hP, ?_⟩
 rw [copyR_eq] at hl
 have hln : l.length = len := by
  have := congrArg List.length hl
  simp only [List.length_map, List.length_take, List.length_drop] at this
  omega
 unfold RelP
 refine ⟨some ad, cap, by rw [hln]; exact eV, by rw [hln]; exact hlen, (fun h => by cases h), (fun h => by cases h), ?_⟩
 rcases Nat.eq_zero_or_pos len with hz | hp
 ·have : l = [] := List.length_eq_zero_iff.1 (by rw [hln]; exact hz)
  subst this
  exact .inr ⟨ad, rfl, fun _ => hsp, by unfold RelPR; trivial⟩
 ·obtain ⟨had, _⟩ := hx hgen.symm (by omega)
  subst had
  refine .inr ⟨_, rfl, fun _ => rfl, RelPR.mk fun i r hi => ?_⟩
  have hi2 : (l.map (·.map AV.p))[i]? = some (r.map AV.p) := by rw [List.getElem?_map, hi]; rfl
  rw [← hl, List.getElem?_map, List.getElem?_take] at hi2
  split at hi2
  ·rw [List.getElem?_drop] at hi2
   obtain ⟨x, hx', hxr⟩ := Option.map_eq_some_iff.1 hi2
   have q1 := hrl x (List.mem_of_getElem? hx')
   rw [copyL_eq] at hxr
   have hlx := congrArg List.length hxr
   simp only [List.length_map] at hlx
   refine ⟨by rw [← hlx]; exact q1, RelPC.mk fun j y hy => ?_⟩
   have hy2 : (r.map AV.p)[j]? = some (.p y) := by rw [List.getElem?_map, hy]; rfl
   rw [← hxr, List.getElem?_map] at hy2
   obtain ⟨c, hcc, hcy⟩ := Option.map_eq_some_iff.1 hy2
   obtain ⟨u, hu, o1, rr⟩ := hj _ x j c hx' hcc
   have hlt : (off + i) * sz + j < rows.length * sz := row_lt (List.getElem?_eq_some_iff.1 hx').1 (by rw [← q1]; exact (List.getElem?_eq_some_iff.1 hcc).1)
   have rp := copyV_rel rr
   rw [hcy] at rp
   unfold RelA at rp
   refine ⟨u, ?_, o1, rp.mono hP.gle.Φ _ _⟩
   have : off * e.sz + i * sz + j = (off + i) * sz + j := by rw [hsz, Nat.add_mul]
   show g'.Φ e.blk (off * e.sz + i * sz + j) = some u
   rw [this, hΦ, hD.cell]; exact hu
  ·cases hi2
theorem sim_moveF {o : Oper} {x : Operand} (ho : o.op = .move x) (hI : Inv GL B0 w0 g s.env s.σ tm w) (hd : ∀ d, o.dst = some d → d < tm.size) {s' : S} (hs : stepOp0 ⟨⟨ty, GL⟩, H, C, h, base⟩ o s = some (.ok s')) :
 SimR GL B0 w0 g w s'.env s'.σ tm o.dst ((execOp (evT tm) o).run P w) := by
 by_cases hnf : ∀ d, o.dst = some d → ¬ h.fz.contains d = true
 ·exact sim_move ho hI hd hnf hs
 ·have ⟨d, hdst, hfz⟩ : ∃ d, o.dst = some d ∧ h.fz.contains d = true := by
   apply Classical.byContradiction
   intro hn
   exact hnf fun d h1 h2 => hn ⟨d, h1, h2⟩
  have hr := eval_move (P := P) (w := w) (evT tm) o x ho
  unfold stepOp0 at hs
  rw [ho, hdst] at hs
  dsimp only at hs
  rw [if_pos hfz] at hs
  cases hf : frzV base s.σ (rd ⟨ty, GL⟩ s.env x) with
  | none => rw [hf] at hs; cases hs
  | some q =>
   obtain ⟨p, σ1⟩ := q
   rw [hf] at hs
   injection hs with hs; injection hs with hs; subst hs
   have hv : ∃ tg, RelA g tg (rd ⟨ty, GL⟩ s.env x) (evT tm x) := by
    have hx := hI.rd (ty := ty) x
    generalize rd ⟨ty, GL⟩ s.env x = v at hx hf
    unfold frzV at hf
    split at hf
    ·cases x with
     | tmp t => exact ⟨fun b => g.tag b = some (.slot t), hx⟩
     | const v => exact ⟨fun _ => False, hx⟩
     | global v => exact ⟨fun _ => False, hx⟩
     | func v => exact ⟨fun _ => False, hx⟩
    ·cases hf
   obtain ⟨tg, hv⟩ := hv
   obtain ⟨g', hI', hP, hp⟩ := hI.freezeV hv hf
   refine SimR.mk' hr ?_ hP
   rw [hdst]
   exact hI'.putO (v := .p p) (by rw [hdst] at hd; exact hd) (RelA.of_p hp)
end
end Go.AM
