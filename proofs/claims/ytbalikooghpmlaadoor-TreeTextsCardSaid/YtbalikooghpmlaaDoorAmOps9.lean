/- A part of the abstract machine and its simulation. -/
import Derived.Test.YtbalikooghpmlaaDoorAmOps8
set_option linter.unusedVariables false
set_option linter.unusedSimpArgs false
namespace Go.AM
open Go Go.RowKit
def RowsAt (g : G) (sz : Nat) (rows : List (List AV)) (C : Array Value) : Prop :=
 rows.length * sz ≤ C.size ∧ ∀ (i : Nat) r, rows[i]? = some r → r.length = sz ∧ ∀ (j : Nat) c, r[j]? = some c → ∃ u, C[i * sz + j]? = some u ∧ one u = true ∧ RelA g (fun _ => False) c u
theorem row_lt {i n sz j : Nat} (hi : i < n) (hj : j < sz) : i * sz + j < n * sz := by
 have : (i + 1) * sz ≤ n * sz := Nat.mul_le_mul_right _ hi
 rw [Nat.add_mul, Nat.one_mul] at this; omega
theorem row_ne {i k sz j : Nat} (hik : i ≠ k) (hj : j < sz) : i * sz + j < k * sz ∨ k * sz + sz ≤ i * sz + j := by
 rcases Nat.lt_or_gt_of_ne hik with h | h
 ·left
  have : (i + 1) * sz ≤ k * sz := Nat.mul_le_mul_right _ h
  rw [Nat.add_mul, Nat.one_mul] at this; omega
 ·right
  have : (k + 1) * sz ≤ i * sz := Nat.mul_le_mul_right _ h
  rw [Nat.add_mul, Nat.one_mul] at this; omega
section
variable {GL : List (Nat × List PV)} {B0 : Nat} {w0 : World} {g : G} {s : S} {tm : Array Value} {w : World} {ty : List TI} {P : Program} {H : FuncId → FH} {C : CallF} {h : FH} {base : Nat}
theorem allPure_relC {b : Nat} : ∀ {cs : List AV} {ps : List PV} {o : Nat}, allPure cs = some ps → RelAC g cs b o → RelPC g.Φ ps b o
 | [], ps, o, h, hr => by simp [allPure] at h; subst h; unfold RelPC; trivial
 | c :: cs, ps, o, h, hr => by
  cases c with
  | p v =>
   simp only [allPure] at h
   split at h
   ·rename_i l hl
    injection h with h; subst h
    unfold RelAC at hr
    obtain ⟨⟨u, hu, o1, k⟩, ks⟩ := hr
    unfold RelA at k
    unfold RelPC
    exact ⟨⟨u, hu, o1, k⟩, allPure_relC hl ks⟩
   ·cases h
  | _ => simp [allPure] at h
theorem allPure_len : ∀ {cs : List AV} {ps : List PV}, allPure cs = some ps → ps.length = cs.length
 | [], ps, h => by simp [allPure] at h; subst h; rfl
 | c :: cs, ps, h => by
  cases c with
  | p v =>
   simp only [allPure] at h
   split at h
   ·rename_i l hl
    injection h with h; subst h
    simp [allPure_len hl]
   ·cases h
  | _ => simp [allPure] at h
theorem allRows_len : ∀ {rs : List (List AV)} {ps : List (List PV)}, allRows rs = some ps → ps.length = rs.length
 | [], ps, h => by simp [allRows] at h; subst h; rfl
 | r :: rs, ps, h => by
  simp only [allRows] at h
  split at h
  ·rename_i l ls h1 h2
   injection h with h; subst h
   simp [allRows_len h2]
  ·cases h
theorem allRows_relR {sz b : Nat} : ∀ {rs : List (List AV)} {ps : List (List PV)} {o : Nat}, allRows rs = some ps → RelAR g sz rs b o → RelPR g.Φ sz ps b o
 | [], ps, o, h, hr => by simp [allRows] at h; subst h; unfold RelPR; trivial
 | r :: rs, ps, o, h, hr => by
  simp only [allRows] at h
  split at h
  ·rename_i l ls h1 h2
   injection h with h; subst h
   unfold RelAR at hr
   obtain ⟨hl, k, ks⟩ := hr
   unfold RelPR
   exact ⟨by rw [allPure_len h1]; exact hl, allPure_relC h1 k, allRows_relR h2 ks⟩
  ·cases h
theorem allRows_map : ∀ ps : List (List PV), allRows (ps.map (·.map AV.p)) = some ps
 | [] => rfl
 | r :: ps => by
  have hall : ∀ l : List PV, allPure (l.map AV.p) = some l := by
   intro l
   induction l with
   | nil => rfl
   | cons a l ih => simp [allPure, ih]
  simp [allRows, hall, allRows_map ps]
theorem relC_map {b : Nat} : ∀ {ps : List PV} {o : Nat}, RelPC g.Φ ps b o → RelAC g (ps.map AV.p) b o
 | [], o, _ => by unfold RelAC; trivial
 | p :: ps, o, hr => by
  unfold RelPC at hr
  obtain ⟨⟨u, hu, o1, k⟩, ks⟩ := hr
  show RelAC g (AV.p p :: ps.map AV.p) b o
  unfold RelAC
  exact ⟨⟨u, hu, o1, RelA.of_p k⟩, relC_map ks⟩
theorem relR_map {sz b : Nat} : ∀ {ps : List (List PV)} {o : Nat}, RelPR g.Φ sz ps b o → RelAR g sz (ps.map (·.map AV.p)) b o
 | [], o, _ => by unfold RelAR; trivial
 | r :: ps, o, hr => by
  unfold RelPR at hr
  obtain ⟨hl, k, ks⟩ := hr
  show RelAR g sz (r.map AV.p :: ps.map (·.map AV.p)) b o
  unfold RelAR
  exact ⟨by simpa using hl, relC_map k, relR_map ks⟩
theorem asl_own {tg : Nat → Prop} {sz : Nat} {rows : List (List AV)} {ps : List (List PV)} {V : Value} (hp : allRows rows = some ps) (hr : RelA g tg (.asl true sz rows) V) : RelA g tg (.own sz ps) V := by
 unfold RelA at hr ⊢
 rcases hr with ⟨h1, rfl⟩ | ⟨ad, cap, e, hl, es, k, ho⟩
 ·simp [allRows] at hp; exact .inl ⟨h1, hp⟩
 have := allRows_len hp
 refine .inr ?_
 exact ⟨ad, cap, by rw [this]; exact e, by rw [this]; exact hl, es, allRows_relR hp k, by rw [this]; exact ho rfl⟩
theorem own_asl {tg : Nat → Prop} {sz : Nat} {ps : List (List PV)} {V : Value} (hr : RelA g tg (.own sz ps) V) : RelA g tg (.asl true sz (ps.map (·.map AV.p))) V := by
 unfold RelA at hr ⊢
 rcases hr with ⟨h1, rfl⟩ | ⟨ad, cap, e, hl, es, k, ho⟩
 ·exact .inl ⟨h1, rfl⟩
 refine .inr ?_
 exact ⟨ad, cap, by simpa using e, by simpa using hl, es, relR_map k, fun _ => by simpa using ho⟩
theorem mkOwn_rel {tg : Nat → Prop} {sz : Nat} {rows : List (List AV)} {V : Value} (hr : RelA g tg (.asl true sz rows) V) : RelA g tg (mkOwn sz rows) V := by
 unfold mkOwn
 split
 ·rename_i ps hp; exact asl_own hp hr
 ·exact hr
theorem mkOwn_S {d sz : Nat} {rows : List (List AV)} {V : Value} (h : RelA g (fun b => g.tag b = some (.slot d)) (mkOwn sz rows) V) : RelS g d (mkOwn sz rows) V := by
 unfold mkOwn at h ⊢
 split at h <;> exact h
theorem Inv.new_own (hI : Inv GL B0 w0 g s.env s.σ tm w) {sz cap d : Nat} {rows : List (List AV)} {D : Array Value} (hR : RowsAt g sz rows D) (hl : rows.length ≤ cap) (hc : cap * sz ≤ D.size) (hd : d < tm.size) (t : TypeId) :
 ∃ g', Inv GL B0 w0 g' ((d, .asl true sz rows) :: s.env) s.σ (putT tm (some d) (.slice (some ⟨w.heap.size, 0, none⟩) rows.length cap)) (w.alloc (.cells D t)) ∧ Post g w g' (w.alloc (.cells D t)) := by
 obtain ⟨g', hE, hP, hk, hμ, ht, hb, h1, h2⟩ := hI.alloc_own D t (rows.length * sz) d
 refine ⟨g', hI.ext hE (fun t' => ?_) (fun id o ho => (hI.objs id o ho).keep hE.le hk trivial (fun _ => trivial) (fun _ _ => trivial) (fun e he _ => by rw [hμ]; exact he)) (by rw [hμ]; exact hI.len), hP⟩
 rw [putT_get hd]
 by_cases e : d = t'
 ·subst e
  simp only [if_true, get, beq_self_eq_true]
  show RelA g' (fun b => g'.tag b = some (.slot d)) (.asl true sz rows) _
  unfold RelA
  refine .inr ⟨_, cap, rfl, hl, fun _ => rfl, RelAR.mk fun i r hi => ?_, fun _ _ => ⟨ht, rfl, by rw [hb]; exact hc, h2⟩⟩
  obtain ⟨hrl, hrc⟩ := hR.2 i r hi
  refine ⟨hrl, RelAC.mk fun j c hj => ?_⟩
  obtain ⟨u, hu, o1, hr⟩ := hrc j c hj
  refine ⟨u, ?_, o1, hr.mono hE.le _ _ _ _ Keeps.none⟩
  have h3 : i * sz + j < rows.length * sz := row_lt (List.getElem?_eq_some_iff.1 hi).1 (by rw [← hrl]; exact (List.getElem?_eq_some_iff.1 hj).1)
  show g'.Φ w.heap.size (0 + i * sz + j) = some u
  rw [Nat.zero_add, h1 _ h3]; exact hu
 ·rw [if_neg e]
  simp only [get, beq_iff_eq, e, if_false]
  exact (hI.env t').keep hE.le hk trivial (fun _ => trivial)
theorem Inv.re (hI : Inv GL B0 w0 g s.env s.σ tm w) {d : Nat} {v v' : AV} {env : Env} {σ : List AObj} {g' : G} {tm' : Array Value} {w' : World} (h : Inv GL B0 w0 g' ((d, v) :: env) σ tm' w')
 (hv : ∀ V, RelS g' d v V → RelS g' d v' V) : Inv GL B0 w0 g' ((d, v') :: env) σ tm' w' := by
 refine ⟨h.below, h.base, h.fz, h.tlt, h.own, fun t => ?_, h.objs, h.len, h.glob, h.mlt⟩
 have := h.env t
 simp only [get] at this ⊢
 split
 ·rename_i e
  rw [if_pos e] at this
  have e' : d = t := by simpa using e
  subst e'; exact hv _ this
 ·rename_i e
  rw [if_neg e] at this
  exact this
theorem mkOwn_re {d sz : Nat} {rows : List (List AV)} (V : Value) (h : RelS g d (.asl true sz rows) V) : RelS g d (mkOwn sz rows) V := mkOwn_S (mkOwn_rel h)
theorem fillR_rel (hI : Inv GL B0 w0 g s.env s.σ tm w) {sz : Nat} {t0 : TypeId} : ∀ (parts : List (Nat × Operand)) (rows rows' : List (List AV)) (D : Array Value),
 RowsAt g sz rows D → fillR sz (parts.map fun p => (p.1, copyA (nilX ⟨ty, GL⟩ t0 p.2 (rdc ⟨ty, GL⟩ s.env p.2)))) rows = some rows' →
 ∃ D', Instr.fill (fun i => some (i * sz, sz)) D (parts.map fun p => (p.1, evT tm p.2)) = some D' ∧ D'.size = D.size ∧ RowsAt g sz rows' D' ∧ rows'.length = rows.length
 | [], rows, rows', D, hr, hf => by
  simp only [List.map_nil, fillR] at hf
  injection hf with hf; subst hf
  exact ⟨D, rfl, rfl, hr, rfl⟩
 | (i, x) :: parts, rows, rows', D, hr, hf => by
  simp only [List.map_cons, fillR] at hf
  split at hf
  ·rename_i hc
   obtain ⟨h1, h2, h3⟩ := hc
   have hx := cellsOf_rel (copyA_rel (nilX_relA (T := ⟨ty, GL⟩) t0 x (hI.rdc (ty := ty) x))) h3
   obtain ⟨l, f⟩ := hx.get
   simp only [Array.length_toList] at l
   have hsz : (evT tm x).cells.size = sz := by omega
   have hfit : i * sz + (evT tm x).cells.size ≤ D.size := by
    have : (i + 1) * sz ≤ rows.length * sz := Nat.mul_le_mul_right _ h2
    rw [Nat.add_mul, Nat.one_mul] at this
    have := hr.1; omega
   obtain ⟨s1, s2⟩ := layA_get (i * sz) (evT tm x).cells D hfit
   obtain ⟨D', hD, hDs, hR, hL⟩ := fillR_rel hI parts _ rows' (layA (i * sz) (evT tm x).cells D) (by
    refine ⟨by rw [s1, List.length_set]; exact hr.1, fun k r hk => ?_⟩
    by_cases hik : i = k
    ·subst hik
     rw [List.getElem?_set_self h2] at hk
     injection hk with hk; subst hk
     refine ⟨h1, fun j c hj => ?_⟩
     obtain ⟨u, hu, o1, rr⟩ := f j c hj
     have hjl := (List.getElem?_eq_some_iff.1 hj).1
     refine ⟨u, ?_, o1, rr⟩
     rw [s2, if_neg (by omega), if_pos (by omega), show i * sz + j - i * sz = j by omega]
     simpa using hu
    ·rw [List.getElem?_set_ne hik] at hk
     obtain ⟨hrl, hrc⟩ := hr.2 k r hk
     refine ⟨hrl, fun j c hj => ?_⟩
     obtain ⟨u, hu, o1, rr⟩ := hrc j c hj
     have hjl := (List.getElem?_eq_some_iff.1 hj).1
     refine ⟨u, ?_, o1, rr⟩
     rw [s2]
     rcases row_ne (Ne.symm hik) (by omega : j < sz) with h' | h'
     ·rw [if_pos h']; exact hu
     ·rw [if_neg (by omega), if_neg (by omega)]; exact hu) hf
   refine ⟨D', ?_, hDs.trans s1, hR, by rw [hL]; simp⟩
   simp only [List.map_cons]
   rw [fill_cons _ D i _ _ rfl hsz hfit]
   exact hD
  ·cases hf
theorem zero_at {z : List PV} {F : PV → AV} {zc : Array Value} {sz m cap : Nat} (hz : RelA1 g (z.map F) zc.toList) (hs : zc.size = sz) (hm : m ≤ cap) : RowsAt g sz (List.replicate m (z.map F)) (madeCells zc (cap * sz)) := by
 refine ⟨by simp only [List.length_replicate, size_madeCells]; exact Nat.mul_le_mul_right _ hm, fun i r hi => ?_⟩
 obtain ⟨l, f⟩ := hz.get
 simp only [List.length_map, Array.length_toList] at l
 have hi' : i < m ∧ z.map F = r := by
  rw [List.getElem?_replicate] at hi
  split at hi
  ·rename_i h1; injection hi with hi; exact ⟨h1, hi⟩
  ·cases hi
 obtain ⟨h1, rfl⟩ := hi'
 refine ⟨by simp; omega, fun j c hj => ?_⟩
 obtain ⟨u, hu, o1, rr⟩ := f j c hj
 have hjl := (List.getElem?_eq_some_iff.1 hj).1
 simp only [List.length_map] at hjl
 refine ⟨u, ?_, o1, rr⟩
 have h3 : i * sz + j < cap * sz := row_lt (Nat.lt_of_lt_of_le h1 hm) (by omega)
 have h4 : (i * sz + j) % sz = j := by rw [Nat.mul_comm, Nat.mul_add_mod]; exact Nat.mod_eq_of_lt (by omega)
 have h5 : zc[j]! = u := by
  rw [Array.getElem?_toList] at hu
  rw [getElem!_def, hu]
 simp [madeCells, h3, hs, h4, h5]
theorem slOf_ok (hT : TabOk P ⟨ty, GL⟩) {t e : TypeId} (h : slOf ⟨ty, GL⟩ t = some e) : P.underlying t = some (.slice e) := by
 unfold slOf at h
 split at h
 ·rename_i e' hd
  injection h with h; subst h
  exact hT.sl hd
 ·cases h
theorem Inv.new_ms (hI : Inv GL B0 w0 g s.env s.σ tm w) {sz cap d : Nat} {rows : List (List AV)} {D : Array Value} (hR : RowsAt g sz rows D) (hl : rows.length ≤ cap) (hc : cap * sz ≤ D.size) (hd : d < tm.size) (t : TypeId) :
 ∃ g', Inv GL B0 w0 g' ((d, .ms s.σ.length 0 sz 0 rows.length) :: s.env) (s.σ ++ [.arr 0 sz rows]) (putT tm (some d) (.slice (some ⟨w.heap.size, 0, none⟩) rows.length cap)) (w.alloc (.cells D t)) ∧ Post g w g' (w.alloc (.cells D t)) := by
 obtain ⟨g', hI', hP, hG, e, he, ha, hg, hs, hb, hbs⟩ := hI.alloc_arr (rows := rows) (sz := sz) (C := D) (fun r hr => by
  obtain ⟨i, hi, rfl⟩ := List.mem_iff_getElem.1 hr
  exact (hR.2 i _ (List.getElem?_eq_getElem hi)).1) hR.1 t (fun i r j c hi hj => (hR.2 i r hi).2 j c hj)
 refine ⟨g', hI'.value hd (RelS.of_A ?_), hP⟩
 unfold RelA
 refine ⟨e, he, ha, by omega, fun _ => hs, _, cap, rfl, hl, fun _ _ => ⟨by rw [hb, Nat.zero_mul], ?_⟩, rfl⟩
 rw [hbs, hs, Nat.zero_add]; exact hc
theorem sim_buildSlice (hT : TabOk P ⟨ty, GL⟩) {o : Oper} {t : TypeId} {n : Nat} {parts : Array (Nat × Operand)} (ho : o.op = .buildSlice t n parts) (hI : Inv GL B0 w0 g s.env s.σ tm w) (hd : ∀ d, o.dst = some d → d < tm.size) {s' : S} (hs : stepOp0 ⟨⟨ty, GL⟩, H, C, h, base⟩ o s = some (.ok s')) :
 SimR GL B0 w0 g w s'.env s'.σ tm o.dst ((execOp (evT tm) o).run P w) := by
 unfold stepOp0 at hs
 rw [ho] at hs
 dsimp only at hs
 split at hs
 ·rename_i e he
  have hu := slOf_ok hT he
  split at hs
  ·rename_i d rows hdst hf
   split at hs
   ·cases hs
   ·rename_i hz
    obtain ⟨hno, hl⟩ := zeroOk_ok (by simpa using hz)
    obtain ⟨z, hzr, hzs, hzrel, i, hi, hiz, his, hib⟩ := zero_rel hT hno hl g w
    split at hs
    ·rename_i h24
     obtain ⟨D, hD, hDs, hR, hL⟩ := fillR_rel (ty := ty) hI parts.toList _ rows _ (zero_at (m := n) (cap := n) hzrel hzs (Nat.le_refl n)) hf
     rw [← parts_map] at hD
     simp only [List.length_replicate] at hL
     rw [size_madeCells] at hDs
     have hr : (execOp (evT tm) o).run P w = .ok (.value (.slice (some ⟨w.heap.size, 0, none⟩) n n)) (w.alloc (.cells D e)) := by
      have h24' : ¬ (n * (Tab.at ⟨ty, GL⟩ e).size > 2 ^ 24) := by omega
      have hD' : Instr.fill (fun i => some (i * (Tab.at ⟨ty, GL⟩ e).size, (Tab.at ⟨ty, GL⟩ e).size)) ((Array.range (n * (Tab.at ⟨ty, GL⟩ e).size)).map (z.cells[· % z.cells.size]!)) (parts.map fun p => (p.1, evT tm p.2)).toList = some D := hD
      unfold execOp; rw [ho]
      simp only [Instr.buildSlice, Sem.run_bind, run_underlying hu, Result.andThen_ok, hT.size hno, if_neg h24', Sem.run_pure]
      by_cases h0 : n * (Tab.at ⟨ty, GL⟩ e).size = 0
      ·rw [if_pos h0]
       have hD2 : Instr.fill (fun i => some (i * (Tab.at ⟨ty, GL⟩ e).size, (Tab.at ⟨ty, GL⟩ e).size)) ((Array.range (n * (Tab.at ⟨ty, GL⟩ e).size)).map ((#[] : Array Value)[· % (#[] : Array Value).size]!)) (parts.map fun p => (p.1, evT tm p.2)).toList = some D := by
        rw [← hD', h0]; simp [Array.range_zero']
       simp at hD2
       simp [hD2, newRow]
      ·rw [if_neg h0]
       simp only [Sem.run_bind, hzr, Sem.run_pure, Result.andThen_ok, hD', newRow]
       simp
     have hcap : n * (Tab.at ⟨ty, GL⟩ e).size ≤ D.size := by omega
     split at hs
     ·injection hs with hs; injection hs with hs; subst hs
      obtain ⟨g', hI', hP⟩ := hI.new_ms hR (cap := n) (by omega) hcap (hd d hdst) e
      refine SimR.mk' hr ?_ hP
      rw [hL] at hI'
      rw [hdst]; exact hI'
     ·injection hs with hs; injection hs with hs; subst hs
      obtain ⟨g', hI', hP⟩ := hI.new_own hR (cap := n) (by omega) hcap (hd d hdst) e
      refine SimR.mk' hr ?_ hP
      rw [hL] at hI'
      have hI2 := hI.re hI' (fun V h => mkOwn_re V h)
      rw [hdst]
      unfold flV
      split
      ·generalize mkOwn (Tab.at ⟨ty, GL⟩ e).size rows = mv at hI2
       split
       ·rename_i sz ps
        refine ⟨hI2.below, hI2.base, hI2.fz, hI2.tlt, hI2.own, fun t => ?_, hI2.objs, hI2.len, hI2.glob, hI2.mlt⟩
        have h0 := hI2.env t
        have hgt : get (s.put (some d) (AV.p (PV.sl (some false) sz ps))).env t = if (d == t) = true then AV.p (PV.sl (some false) sz ps) else get s.env t := rfl
        rw [hgt]
        simp only [get] at h0
        split
        ·rename_i e1
         rw [if_pos e1] at h0
         have e1 : d = t := by simpa using e1
         subst e1
         rw [putT_get (hd d hdst), if_pos rfl] at h0 ⊢
         have h0 : RelA g' (fun b => g'.tag b = some (.slot d)) (.own sz ps) (.slice (some ⟨w.heap.size, 0, none⟩) n n) := h0
         show RelA g' (fun b => g'.tag b = some (.slot d)) (.p (.sl (some false) sz ps)) (.slice (some ⟨w.heap.size, 0, none⟩) n n)
         unfold RelA at h0 ⊢
         unfold RelP
         rcases h0 with ⟨h0, _⟩ | ⟨ad, cap, h0, hle, hsp, hpr, _⟩
         ·cases h0
         ·injection h0 with h1 h2 h3
          injection h1 with h1
          subst h1; subst h3
          exact ⟨_, _, by rw [h2], by omega, (fun h => by cases h), fun _ => ⟨by simp, h2⟩, .inr ⟨_, rfl, fun _ => rfl, hpr⟩⟩
        ·rename_i e1
         rw [if_neg e1] at h0
         exact h0
       ·exact hI2
      ·exact hI2
    ·cases hs
  ·cases hs
 ·cases hs
theorem boundOk_ok {n b : Nat} (h : boundOk n b = true) : 0 < b ∧ n * b ≤ 70368744177664 ∧ n ≤ 70368744177664 := by
 unfold boundOk at h
 simp only [decide_eq_true_eq] at h
 refine ⟨h.1, h.2, ?_⟩
 have : n * 1 ≤ n * b := Nat.mul_le_mul_left _ h.1
 omega
theorem mkOwn_zero (sz n : Nat) (z : List PV) : mkOwn sz (List.replicate n (z.map AV.p)) = .own sz (List.replicate n z) := by
 have : List.replicate n (z.map AV.p) = (List.replicate n z).map (·.map AV.p) := by simp
 unfold mkOwn
 rw [this, allRows_map]
theorem sim_makeSlice (hT : TabOk P ⟨ty, GL⟩) {o : Oper} {t : TypeId} {l k : Operand} (ho : o.op = .makeSlice t l k) (hI : Inv GL B0 w0 g s.env s.σ tm w) (hd : ∀ d, o.dst = some d → d < tm.size) {s' : S} (hs : stepOp0 ⟨⟨ty, GL⟩, H, C, h, base⟩ o s = some (.ok s')) :
 SimR GL B0 w0 g w s'.env s'.σ tm o.dst ((execOp (evT tm) o).run P w) := by
 unfold stepOp0 at hs
 rw [ho] at hs
 dsimp only at hs
 split at hs
 ·rename_i e he
  have hu := slOf_ok hT he
  split at hs
  ·rename_i k1 n k2 m d h1 h2 hdst
   split at hs
   ·rename_i hc
    obtain ⟨c1, c2, c3, c4⟩ := hc
    obtain ⟨hno, hl⟩ := zeroOk_ok c4
    obtain ⟨z, hzr, hzs, hzrel, i, hi, hiz, his, hib⟩ := zero_rel hT hno hl g w
    obtain ⟨b1, b2, b3⟩ := boundOk_ok c3
    have hle : n.toNat ≤ m.toNat := by omega
    have hby : (i.bytes : Int) * m ≤ 281474976710656 := by
     have : ((m.toNat * (Tab.at ⟨ty, GL⟩ e).bytes : Nat) : Int) ≤ 70368744177664 := by omega
     rw [Int.natCast_mul, Int.toNat_of_nonneg (by omega)] at this
     rw [hib, Int.mul_comm]; omega
    have hr : (execOp (evT tm) o).run P w = .ok (.value (.slice (some ⟨w.heap.size, 0, none⟩) n.toNat m.toNat)) (w.alloc (.cells (madeCells z.cells (m.toNat * i.size)) e)) := by
     have := run_make (P := P) w t e i z hu hi hiz k1 k2 n m c1 c2 hby (by omega)
     unfold execOp; rw [ho]
     simp only [hI.lit h1, hI.lit h2, Sem.run_bind, this, Result.andThen_ok, Sem.run_pure]
    rw [his] at hr
    have hR := zero_at (m := n.toNat) (cap := m.toNat) hzrel hzs hle
    have hRA := zero_at (m := n.toNat) (cap := m.toNat) (F := zAF (h.fz.contains d)) (by
     cases h.fz.contains d with
     | false => exact zero_relA' hT hno hl g hzr
     | true => exact hzrel) hzs hle
    have hcap : m.toNat * (Tab.at ⟨ty, GL⟩ e).size ≤ (madeCells z.cells (m.toNat * (Tab.at ⟨ty, GL⟩ e).size)).size := by rw [size_madeCells]; exact Nat.le_refl _
    split at hs
    ·injection hs with hs; injection hs with hs; subst hs
     obtain ⟨g', hI', hP⟩ := hI.new_ms hRA (cap := m.toNat) (by simpa using hle) hcap (hd d hdst) e
     rw [List.length_replicate] at hI'
     refine SimR.mk' hr ?_ hP
     rw [hdst]; exact hI'
    ·injection hs with hs; injection hs with hs; subst hs
     obtain ⟨g', hI', hP⟩ := hI.new_own hR (cap := m.toNat) (by simpa using hle) hcap (hd d hdst) e
     rw [List.length_replicate] at hI'
     refine SimR.mk' hr ?_ hP
     rw [hdst, ← mkOwn_zero]
     exact hI.re hI' (fun V h => mkOwn_re V h)
   ·cases hs
  ·cases hs
 ·cases hs
end
end Go.AM
