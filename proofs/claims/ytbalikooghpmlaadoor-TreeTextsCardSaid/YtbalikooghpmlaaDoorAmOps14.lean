/- A part of the abstract machine and its simulation. -/
import Derived.Test.YtbalikooghpmlaaDoorAmOps13
import Derived.Test.YtbalikooghpmlaaDoorAmApp
set_option linter.unusedVariables false
set_option linter.unusedSimpArgs false
namespace Go.AM
open Go Go.RowKit
section
variable {GL : List (Nat × List PV)} {B0 : Nat} {w0 : World} {g : G} {env : Env} {σ : List AObj} {s : S} {tm : Array Value} {w : World} {ty : List TI} {P : Program} {H : FuncId → FH} {C : CallF} {h : FH} {base : Nat}
theorem stripM_p {env : Env} {h : FH} {x : Operand} {v : PV} (hv : mvV ⟨ty, GL⟩ h env x = .p v) : stripM h env x = env ∨ rd ⟨ty, GL⟩ env x = .p v := by
 unfold mvV stripM at *
 split
 ·exact .inl rfl
 ·rename_i hs; rw [if_neg hs] at hv; exact .inr hv
theorem strip_p {env : Env} {x : Operand} {v : PV} (h : rd ⟨ty, GL⟩ env x = .p v) : strip env x = env := by
 cases x with
 | tmp t => simp only [rd] at h; unfold strip; simp only [h]
 | _ => rfl
theorem asl_map_nil {d sz : Nat} {g : G} (ys : List (List PV)) (V : Value) (h : RelS g d (.asl true sz (ys.map (·.map AV.p))) V) : RelS g d (.own sz ys) V := asl_own (allRows_map ys) h
theorem run_append {o : Oper} {cl : Call} (ho : o.op = .call cl) (hcal : cl.callee = .builtin .append) {t t' : TypeId} {x y : Operand} (ha : cl.args.toList = [x, y]) (ht : cl.argTypes.toList = [t, t']) :
 (execOp (evT tm) o).run P w = ((Builtin.append_ #[t, t'] o.type #[evT tm x, evT tm y]).run P w).andThen (fun v w => .ok (.value v) w) := by
 have e1 : cl.argTypes = #[t, t'] := Array.ext' ht
 have e2 : cl.args.map (evT tm) = #[evT tm x, evT tm y] := by
  apply Array.ext'
  simp [ha]
 unfold execOp; rw [ho]
 simp only [resolve, hcal, Sem.run_bind, Sem.run_pure, Result.andThen_ok, invoke, builtin, e1, e2]
theorem sim_append (hT : TabOk P ⟨ty, GL⟩) {o : Oper} {cl : Call} (ho : o.op = .call cl) (hcal : cl.callee = .builtin .append) (hI : Inv GL B0 w0 g s.env s.σ tm w) (hd : ∀ d, o.dst = some d → d < tm.size) {s' : S} (hs : stepOp0 ⟨⟨ty, GL⟩, H, C, h, base⟩ o s = some (.ok s')) :
 SimR GL B0 w0 g w s'.env s'.σ tm o.dst ((execOp (evT tm) o).run P w) := by
 unfold stepOp0 at hs
 rw [ho] at hs
 dsimp only at hs
 rw [hcal] at hs
 dsimp only at hs
 split at hs
 ·rename_i x y t t' d hargs htys hdst
  split at hs
  ·rename_i e he
   split at hs
   ·rename_i hc
    simp only [Bool.and_eq_true] at hc
    obtain ⟨hok, hz⟩ := hc
    obtain ⟨hno, hl⟩ := zeroOk_ok hz
    obtain ⟨z, hzr, hzs, hzrel, i, hi, hiz, his, hib⟩ := zero_rel hT hno hl g w
    split at hs
    ·rename_i v σ' hap
     injection hs with hs; injection hs with hs; subst hs
     replace hap := append_ap hap
     generalize (if apB h d = true then s.σ else σ') = σ' at hap ⊢
     have hdl := hd d hdst
     have hux := slOf_ok hT he
     have hy := hI.rdc (ty := ty) y
     have hA : ∀ {sz rows}, rowsOf s.σ (rdc ⟨ty, GL⟩ s.env y) = some (sz, rows) → AppTy P t t' e i z := by
      intro sz rows hr
      refine ⟨hux, ?_, hi, hiz⟩
      revert hok hr
      generalize rdc ⟨ty, GL⟩ s.env y = yv
      intro hok hr
      have hsl : (slOf ⟨ty, GL⟩ t').isSome = true → ∃ e', P.underlying t' = some (.slice e') := fun h => by
       obtain ⟨e', he'⟩ := Option.isSome_iff_exists.1 h
       exact ⟨e', slOf_ok hT he'⟩
      unfold appOk at hok
      split at hok
      ·right
       split at hok
       ·rename_i hstr; exact hT.str hstr
       ·cases hok
      ·exact .inl (hsl hok)
     have hrun : (execOp (evT tm) o).run P w = ((Builtin.append_ #[t, t'] o.type #[evT tm x, evT tm y]).run P w).andThen (fun v w => .ok (.value v) w) := by
      exact run_append ho hcal hargs htys
     have fin : ∀ {v : AV}, (∃ V g' w', (Builtin.append_ #[t, t'] o.type #[evT tm x, evT tm y]).run P w = .ok V w' ∧ Inv GL B0 w0 g' ((d, v) :: AM.stripM h s.env x) σ' (putT tm (some d) V) w' ∧ Post g w g' w') →
      SimR GL B0 w0 g w (({ s.stripM h x with σ := σ' } : S).put o.dst v).env (({ s.stripM h x with σ := σ' } : S).put o.dst v).σ tm o.dst ((execOp (evT tm) o).run P w) := by
      rintro v ⟨V, g', w', hr, hI', hP⟩
      rw [hr] at hrun
      refine SimR.mk' hrun ?_ hP
      rw [hdst]; exact hI'
     have hbnd : ∀ {n : Nat}, boundOk n (Tab.at ⟨ty, GL⟩ e).bytes = true → 0 < i.bytes ∧ n * i.bytes ≤ 70368744177664 := fun hb => by
      obtain ⟨b1, b2, _⟩ := boundOk_ok hb
      rw [hib]; exact ⟨b1, b2⟩
     have hzs' : z.cells.size = i.size := by rw [hzs, his]
     have hx := hI.rdM (ty := ty) h x
     have hmo := mv_owns (GL := GL) (ty := ty) (h := h) (env := s.env) (x := x)
     rw [← his] at hap
     unfold appendV at hap
     split at hap
     ·
      rename_i sz0 rows0 hv
      rw [hv] at hx
      have hp := hx.pure
      unfold RelP at hp
      obtain ⟨a, cap, eV, hl0, hn0, _⟩ := hp
      obtain ⟨rfl, rfl⟩ := hn0 rfl
      have hl00 : rows0.length = 0 := by omega
      rw [hl00] at eV
      have hse : AM.stripM h s.env x = s.env := (stripM_p hv).elim id fun e => by unfold AM.stripM; split <;> first | rfl | exact strip_p e
      rw [eV, hse] at fin
      split at hap
      ·split at hap
       ·rename_i sz' ys hys
        split at hap
        ·rename_i hc
         simp only [Bool.and_eq_true, Bool.not_eq_true', List.isEmpty_eq_false_iff] at hc
         obtain ⟨⟨hb, hsz⟩, hne⟩ := hc
         injection hap with hap; injection hap with h1 h2; subst h1; subst h2
         obtain ⟨news, hn⟩ := src_of (P := P) (size := i.size) hI hy hys (by simp [hsz])
         exact fin (app_nilMs (ty' := o.type) (hA hys) hzs' hdl hI hn (hbnd hb) (List.length_pos_iff.2 hne))
        ·cases hap
       ·cases hap
      ·split at hap
       ·rename_i v' hv'
        injection hap with hap; injection hap with h1 h2; subst h1; subst h2
        unfold appendRows at hv'
        split at hv'
        ·rename_i sz' ys hys
         have hrs := prows_rows' hys
         split at hv'
         ·rename_i hc
          simp only [Bool.and_eq_true] at hc
          obtain ⟨⟨hb, _⟩, hsz⟩ := hc
          rw [if_pos rfl] at hv'
          obtain ⟨news, hn⟩ := src_of (P := P) (size := i.size) hI hy hrs (by simpa using hsz)
          split at hv'
          ·injection hv' with hv'; subst hv'
           have hnw : news = [] := by have := hn.sz; simpa using this
           subst hnw
           exact fin ⟨_, g, w, app_none (hA hrs) (hn.len w) (hn.first w rfl), hI.value hdl (RelS.of_A (RelA.of_p (by unfold RelP; exact ⟨none, 0, rfl, Nat.le_refl _, fun _ => ⟨rfl, rfl⟩, (fun h => by cases h), .inl ⟨rfl, rfl⟩⟩))), Post.refl g w⟩
          ·rename_i hne
           injection hv' with hv'; subst hv'
           have hpos : 0 < (ys.map (·.map AV.p)).length := by
            cases ys with
            | nil => exact absurd rfl hne
            | cons a l => simp
           obtain ⟨V, g', w', hr, hI', hP⟩ := app_nil (ty' := o.type) (hA hrs) hzs' hdl hI hn (by have := hbnd hb; simpa using this) hpos
           exact fin ⟨V, g', w', hr, hI'.rename (fun V h => asl_map_nil ys V h), hP⟩
         ·cases hv'
        ·split at hv'
         ·rename_i sz' zs hzs1
          split at hv'
          ·rename_i hc
           simp only [Bool.and_eq_true, Bool.not_eq_true', List.isEmpty_eq_false_iff] at hc
           obtain ⟨⟨⟨hb, _⟩, hsz⟩, hne⟩ := hc
           injection hv' with hv'; subst hv'
           obtain ⟨news, hn⟩ := src_of (P := P) (size := i.size) hI hy hzs1 (by simp [hsz])
           obtain ⟨V, g', w', hr, hI', hP⟩ := app_nil (ty' := o.type) (hA hzs1) hzs' hdl hI hn (by have := hbnd hb; simpa using this) (List.length_pos_iff.2 hne)
           exact fin ⟨V, g', w', hr, by simpa using hI', hP⟩
          ·cases hv'
         ·cases hv'
       ·cases hap
     ·
      rename_i sz0 rows0 hv
      obtain ⟨em, es⟩ := hmo (by rw [hv]; rfl)
      rw [em] at hv
      obtain ⟨tx, rfl⟩ := owns_tmp (ty := ty) (by rw [hv]; rfl)
      rw [es] at fin
      split at hap
      ·rename_i v' hv'
       injection hap with hap; injection hap with h1 h2; subst h1; subst h2
       unfold appendRows at hv'
       split at hv'
       ·rename_i sz' ys hys
        have hrs := prows_rows' hys
        split at hv'
        ·rename_i hc
         simp only [Bool.and_eq_true, Bool.false_or, beq_iff_eq] at hc
         obtain ⟨⟨hb, hs0⟩, hsz⟩ := hc
         rw [if_neg (by simp)] at hv'
         injection hv' with hv'; subst hv'; subst hs0
         obtain ⟨news, hn⟩ := src_of (P := P) (size := i.size) hI hy hrs (by simpa using hsz)
         obtain ⟨V, g', w', hr, hI', hP⟩ := app_own (ty' := o.type) (hA hrs) hzs' hdl hI hn (rows := rows0.map (·.map AV.p)) (by have := hbnd hb; simpa using this) hv (.inr ⟨_, rfl, rfl⟩) rfl
         refine fin ⟨V, g', w', hr, hI'.rename (fun V h => ?_), hP⟩
         rw [← List.map_append] at h
         exact asl_map_nil _ V h
        ·cases hv'
       ·split at hv'
        ·rename_i sz' zs hzs1
         split at hv'
         ·rename_i hc
          simp only [Bool.and_eq_true, Bool.not_eq_true', List.isEmpty_eq_false_iff, Bool.false_or, beq_iff_eq] at hc
          obtain ⟨⟨⟨hb, hs0⟩, hsz⟩, hne⟩ := hc
          injection hv' with hv'; subst hv'; subst hs0
          obtain ⟨news, hn⟩ := src_of (P := P) (size := i.size) hI hy hzs1 (by simp [hsz])
          obtain ⟨V, g', w', hr, hI', hP⟩ := app_own (ty' := o.type) (hA hzs1) hzs' hdl hI hn (rows := rows0.map (·.map AV.p)) (by have := hbnd hb; simpa using this) hv (.inr ⟨_, rfl, rfl⟩) rfl
          exact fin ⟨V, g', w', hr, hI', hP⟩
         ·cases hv'
        ·cases hv'
      ·cases hap
     ·
      rename_i sz0 rows0 hv
      obtain ⟨em, es⟩ := hmo (by rw [hv]; rfl)
      rw [em] at hv
      obtain ⟨tx, rfl⟩ := owns_tmp (ty := ty) (by rw [hv]; rfl)
      rw [es] at fin
      split at hap
      ·rename_i sz' ys hys
       split at hap
       ·rename_i hc
        simp only [Bool.and_eq_true, beq_iff_eq] at hc
        obtain ⟨⟨hb, hs0⟩, hsz⟩ := hc
        injection hap with hap; injection hap with h1 h2; subst h1; subst h2; subst hs0
        obtain ⟨news, hn⟩ := src_of (P := P) (size := i.size) hI hy hys (by simpa using hsz)
        obtain ⟨V, g', w', hr, hI', hP⟩ := app_own (ty' := o.type) (hA hys) hzs' hdl hI hn (rows := rows0) (hbnd hb) hv (.inl rfl) rfl
        exact fin ⟨V, g', w', hr, hI', hP⟩
       ·cases hap
      ·cases hap
     ·
      rename_i id gn sz0 off len hv
      split at hap
      ·cases hap
      split at hap
      ·rename_i gn' sz1 rows0 sz' ys h0 hys
       split at hap
       ·rename_i hc
        simp only [Bool.and_eq_true, beq_iff_eq, decide_eq_true_eq] at hc
        obtain ⟨⟨⟨⟨⟨⟨rfl, rfl⟩, hlen⟩, hb⟩, hs0⟩, hsz⟩, _⟩ := hc
        injection hap with hap; injection hap with h1 h2; subst h1; subst h2; subst hs0
        obtain ⟨news, hn⟩ := src_of (P := P) (size := i.size) hI hy hys (by simpa using hsz)
        obtain ⟨tgx, hxa⟩ := hx.weak (fun cs e => by rw [hv] at e; cases e)
        rw [hv] at hxa
        obtain ⟨V, g', w', hr, hI', hP⟩ := app_ms (ty' := o.type) (hA hys) hzs' hdl (hI.strippedM h x) hn (hbnd hb) h0 hlen hxa
        exact fin ⟨V, g', w', hr, hI', hP⟩
       ·cases hap
      ·cases hap
     ·
      rename_i id k0 hv
      split at hap
      ·cases hap
      split at hap
      ·rename_i sz' ys h0 hys
       split at hap
       ·rename_i hc
        simp only [Bool.and_eq_true, Bool.not_eq_true', List.isEmpty_eq_false_iff] at hc
        obtain ⟨⟨⟨hb, hsz⟩, hne⟩, _⟩ := hc
        injection hap with hap; injection hap with h1 h2; subst h1; subst h2
        obtain ⟨news, hn⟩ := src_of (P := P) (size := i.size) hI hy hys (by simp [hsz])
        obtain ⟨tgx, hxa⟩ := hx.weak (fun cs e => by rw [hv] at e; cases e)
        rw [hv] at hxa
        unfold RelA at hxa
        obtain ⟨_, _, _, eV⟩ := hxa
        rw [eV] at fin
        obtain ⟨V, g', w', hr, hI', hP⟩ := app_nms (ty' := o.type) (hA hys) hzs' hdl (hI.strippedM h x) hn (hbnd hb) (List.length_pos_iff.2 hne) h0
        exact fin ⟨V, g', w', hr, hI', hP⟩
       ·cases hap
      ·cases hap
     ·cases hap
    ·cases hs
   ·cases hs
  ·cases hs
 ·cases hs
end
end Go.AM
