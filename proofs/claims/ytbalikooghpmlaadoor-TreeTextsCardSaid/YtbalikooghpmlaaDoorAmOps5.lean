/- A part of the abstract machine and its simulation. -/
import Derived.Test.YtbalikooghpmlaaDoorAmOps4
set_option linter.unusedVariables false
set_option linter.unusedSimpArgs false
namespace Go.AM
open Go Go.RowKit
theorem choose_list {α β : Type} {Q : Nat → α → β → Prop} : ∀ (cs : List α), (∀ (k : Nat) c, cs[k]? = some c → ∃ u, Q k c u) → ∃ us : List β, us.length = cs.length ∧ ∀ (k : Nat) c, cs[k]? = some c → ∃ u, us[k]? = some u ∧ Q k c u := by
 intro cs
 induction cs generalizing Q with
 | nil => exact fun _ => ⟨[], rfl, fun k c h => by simp at h⟩
 | cons x cs ih =>
  intro h
  obtain ⟨u, hu⟩ := h 0 x (by simp)
  obtain ⟨us, hl, hus⟩ := ih (Q := fun k => Q (k + 1)) fun k c hc => h (k + 1) c (by simpa using hc)
  refine ⟨u :: us, by simp [hl], fun k c hc => ?_⟩
  cases k with
  | zero => simp at hc; subst hc; exact ⟨u, by simp, hu⟩
  | succ k => simp at hc; simpa using hus k c hc
theorem allPure_copy : ∀ {cs : List AV} {ps : List PV}, allPure cs = some ps → copyL cs = cs
 | [], _, _ => rfl
 | c :: cs, ps, h => by
  cases c with
  | p v =>
   simp only [allPure] at h
   split at h
   ·rename_i l hl; rw [copyL, allPure_copy hl]; rfl
   ·cases h
  | _ => simp [allPure] at h
theorem copyA_mkAgg (cs : List AV) : copyA (mkAgg cs) = mkAgg (copyL cs) := by
 cases h : allPure cs with
 | none => unfold mkAgg; simp only [h]; rfl
 | some ps => rw [allPure_copy h]; unfold mkAgg; simp only [h]; rfl
section
variable {GL : List (Nat × List PV)} {B0 : Nat} {w0 : World} {g : G} {s : S} {tm : Array Value} {w : World} {ty : List TI} {P : Program} {H : FuncId → FH} {C : CallF} {h : FH} {base : Nat}
def Cells (g : G) (w : World) (cs : List AV) (b o : Nat) : Prop := ∀ (k : Nat) c, cs[k]? = some c → ∃ u, w.cell? ⟨b, o + k, none⟩ = some u ∧ one u = true ∧ ∃ tg, RelA g tg c u
theorem load_pick (hT : TabOk P ⟨ty, GL⟩) {cs : List AV} {b o off : Nat} (hc : Cells g w cs b o) {t : TypeId} {v : AV} (hv : pickAgg ⟨ty, GL⟩ t cs off = some v) :
 ∃ V, (loadVar t ⟨b, o + off, none⟩).run P w = .ok V w ∧ RelA g (fun _ => False) (copyA v) V := by
 unfold pickAgg at hv
 split at hv
 ·rename_i ha
  split at hv
  ·rename_i hf
   injection hv with hv; subst hv
   have hlen : ((cs.drop off).take (Tab.at ⟨ty, GL⟩ t).size).length = (Tab.at ⟨ty, GL⟩ t).size := by simp; omega
   obtain ⟨us, hul, hus⟩ := choose_list (Q := fun k c u => w.cell? ⟨b, o + off + k, none⟩ = some u ∧ one u = true ∧ ∃ tg, RelA g tg c u) ((cs.drop off).take (Tab.at ⟨ty, GL⟩ t).size) (fun k c hk => by
    rw [List.getElem?_take] at hk
    split at hk
    ·rw [List.getElem?_drop] at hk
     have := hc (off + k) c hk
     rwa [← Nat.add_assoc] at this
    ·cases hk)
   refine ⟨.agg us.toArray, run_loadAgg hT ha (by rw [hul, hlen]) (fun j u hj => ?_), ?_⟩
   ·have hjl := (List.getElem?_eq_some_iff.1 hj).1
    obtain ⟨u', hu', hcell, _⟩ := hus j _ (List.getElem?_eq_getElem (by omega))
    rw [hj] at hu'; injection hu' with hu'; subst hu'
    rw [addr_add]; exact hcell
   ·rw [copyA_mkAgg]
    refine mkAgg_rel ?_
    rw [copyL_eq]
    refine RelA1.mk (by simp [hul]) fun i c hi => ?_
    rw [List.getElem?_map] at hi
    obtain ⟨c', hc', rfl⟩ := Option.map_eq_some_iff.1 hi
    obtain ⟨u, hu, _, o1, tg, r⟩ := hus i c' hc'
    exact ⟨u, hu, o1, copyV_rel r⟩
  ·cases hv
 ·rename_i ha
  obtain ⟨u, hu, o1, tg, r⟩ := hc off v hv
  refine ⟨u, run_loadOne hT ha hu, copyA_rel r⟩
 ·cases hv
theorem pickPure_agg {t : TypeId} {cs : List PV} {T : Tab} {v : PV} (hv : pickPure T t cs = some v) : pickAgg T t (cs.map AV.p) 0 = some (.p v) := by
 unfold pickPure at hv
 unfold pickAgg
 split at hv
 ·rename_i ha
  split at hv
  ·rename_i hl
   injection hv with hv; subst hv
   have hall : ∀ l : List PV, allPure (l.map AV.p) = some l := by
    intro l
    induction l with
    | nil => rfl
    | cons a l ih => simp [allPure, ih]
   simp only [ha, List.length_map, Nat.zero_add, hl, if_true, List.drop_zero]
   rw [← List.map_take]
   unfold mkAgg
   rw [hall]
  ·cases hv
 ·rename_i ha
  simp [ha, hv]
 ·cases hv
theorem Cells.pp (hI : Inv GL B0 w0 g s.env s.σ tm w) {cs : List PV} {b o : Nat} (hr : RelPC g.Φ cs b o) : Cells g w (cs.map AV.p) b o := by
 intro k c hc
 rw [List.getElem?_map] at hc
 obtain ⟨c', hc', rfl⟩ := Option.map_eq_some_iff.1 hc
 obtain ⟨u, hu, o1, r⟩ := hr.get k c' hc'
 exact ⟨u, hI.fz _ _ _ hu, o1, fun _ => False, RelA.of_p r⟩
theorem Cells.ap (hI : Inv GL B0 w0 g s.env s.σ tm w) {cs : List AV} {b o : Nat} (hr : RelAC g cs b o) : Cells g w cs b o := by
 intro k c hc
 obtain ⟨u, hu, o1, r⟩ := hr.get k c hc
 exact ⟨u, hI.fz _ _ _ hu, o1, fun _ => False, r⟩
theorem Cells.at_ {a : AV} {cs : List AV} {off : Nat} {V : Value} {e : ME} {o0 : Nat} {C : Array Value} (hA : At g w a cs off V e o0 C) : Cells g w cs e.blk o0 := by
 intro k c hc
 obtain ⟨u, hu, o1, r⟩ := hA.cell k c hc
 exact ⟨u, by rw [hA.blk.cell]; exact hu, o1, _, r⟩
theorem loadV_rel (hT : TabOk P ⟨ty, GL⟩) (hI : Inv GL B0 w0 g s.env s.σ tm w) {x : Operand} {t : TypeId} {v : AV} (hv : loadV ⟨ty, GL⟩ s.σ t (rd ⟨ty, GL⟩ s.env x) = some v) :
 ∃ ad V, evT tm x = .pointer (some ad) ∧ (loadVar t ad).run P w = .ok V w ∧ RelA g (fun _ => False) (copyA v) V := by
 have hx := hI.rd (ty := ty) x
 generalize rd ⟨ty, GL⟩ s.env x = a at *
 unfold loadV at hv
 split at hv
 ·rename_i cs
  split at hv
  ·rename_i p hp
   injection hv with hv; subst hv
   have h1 := hx.pure
   unfold RelP at h1
   obtain ⟨⟨b, o, sp⟩, e, es, k⟩ := h1
   simp only at es; subst es
   obtain ⟨V, hV, hR⟩ := load_pick hT (Cells.pp hI k) (pickPure_agg hp)
   exact ⟨_, V, e, hV, hR⟩
  ·cases hv
 ·rename_i cs
  have h1 := hx.any (fun _ => by simp)
  unfold RelA at h1
  obtain ⟨⟨b, o, sp⟩, e, es, k⟩ := h1
  simp only at es; subst es
  obtain ⟨V, hV, hR⟩ := load_pick hT (Cells.ap hI k) hv
  exact ⟨_, V, e, hV, hR⟩
 ·split at hv
  ·rename_i cs off hr
   obtain ⟨tg, ha⟩ := hx.weak (readAt_notTup hr)
   obtain ⟨e, o0, Cc, hA, _⟩ := hI.write ha hr
   obtain ⟨V, hV, hR⟩ := load_pick hT (Cells.at_ hA) hv
   exact ⟨_, V, hA.V, hV, hR⟩
  ·cases hv
theorem sim_load (hT : TabOk P ⟨ty, GL⟩) {o : Oper} {t : TypeId} {x : Operand} (ho : o.op = .load t x) (hI : Inv GL B0 w0 g s.env s.σ tm w) (hd : ∀ d, o.dst = some d → d < tm.size) {s' : S} (hs : stepOp0 ⟨⟨ty, GL⟩, H, C, h, base⟩ o s = some (.ok s')) :
 SimR GL B0 w0 g w s'.env s'.σ tm o.dst ((execOp (evT tm) o).run P w) := by
 unfold stepOp0 at hs
 rw [ho] at hs
 dsimp only at hs
 split at hs
 ·rename_i v hv
  obtain ⟨ad, V, eV, hV, hR⟩ := loadV_rel hT hI hv
  have hr : (execOp (evT tm) o).run P w = .ok (.value V) w := by
   unfold execOp; rw [ho]
   simp only [eV]
   simp [Instr.loadAt, Instr.sureAddr, hV]
  split at hs
  ·rename_i d hdst
   split at hs
   ·rename_i hm
    simp only [Bool.and_eq_true, beq_iff_eq] at hm
    split at hs
    ·rename_i cs off hra
     injection hs with hs; injection hs with hs; subst hs
     have hx := hI.rd (ty := ty) x
     obtain ⟨tg, ha⟩ := hx.weak (readAt_notTup hra)
     have hvc : cs[off]? = some v := by
      have href := readAt_ref hra
      rcases href with ⟨i, o', e⟩ | ⟨i, gn, q, j, e⟩ <;> (rw [e] at hv hra; simp only [loadV, hra] at hv; unfold pickAgg at hv; simp only [hm.2] at hv; exact hv)
     obtain ⟨g', u, b, o', eV', hcell, hI', hP⟩ := hI.take_ ha hra hvc (hd d hdst)
     rw [eV] at eV'; injection eV' with eV'; injection eV' with eV'; subst eV'
     have hu := run_loadOne hT hm.2 hcell
     rw [hV] at hu; injection hu with hu; subst hu
     refine SimR.mk' hr ?_ hP
     rw [hdst]; exact hI'
    ·injection hs with hs; injection hs with hs; subst hs
     exact SimR.value hI hd hR hr
   ·injection hs with hs; injection hs with hs; subst hs
    exact SimR.value hI hd hR hr
  ·cases hs
 ·cases hs
end
end Go.AM
