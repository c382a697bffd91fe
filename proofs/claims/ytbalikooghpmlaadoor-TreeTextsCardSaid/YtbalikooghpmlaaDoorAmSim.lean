/- What the abstract machine computes, the model does: for every call whose functions pass the check codeOk. -/
import Derived.Test.YtbalikooghpmlaaDoorAmOrd
import Derived.Test.YtbalikooghpmlaaDoorAmRange
import Derived.RecoverIn
set_option linter.unusedVariables false
set_option linter.unusedSimpArgs false
namespace Go.AM
open Go Go.RowKit
def resM (tm : Array Value) : ResultVar → Sem Value
 | .tmp t => pure (tm.getD t Go.undef)
 | .cell a t => do loadVar t (← asAddr (tm.getD a Go.undef))
theorem results_eq (fn : Func) (tm : Array Value) : results fn tm = (do
 let vs ← fn.results.mapM (resM tm)
 pure (if h : vs.size = 1 then vs[0] else .tuple vs)) := rfl
theorem Inv.eqv {GL : List (Nat × List PV)} {B0 : Nat} {w0 : World} {g : G} {tm : Array Value} {w : World} {s s' : S} (hI : Inv GL B0 w0 g s'.env s'.σ tm w) (he : Eqv s s') : Inv GL B0 w0 g s.env s.σ tm w := by
 have e := he.σ
 rw [← e]
 exact ⟨hI.below, hI.base, hI.fz, hI.tlt, hI.own, fun t => by rw [← he.env t]; exact hI.env t, hI.objs, hI.len, hI.glob, hI.mlt⟩
theorem stepR_scope {P : Program} {b : Frame} {a : Act} {k : List Item} {cs : List Frame} {w : World} {c : Code} : step P (lone (b.atR a (.code (.scope c) :: k)) cs w) = .next (lone (b.atR a (.code c :: .inScope c :: k)) cs w) :=
 step_lone_go (by simp [Go.stepG, Go.stepG.exec, Frame.atR])
theorem stepR_inScope {P : Program} {b : Frame} {a : Act} {k : List Item} {cs : List Frame} {w : World} {c : Code} : step P (lone (b.atR a (.inScope c :: k)) cs w) = .next (lone (b.atR a k) cs w) :=
 step_lone_go (by simp [Go.stepG, Go.stepG.exec, Frame.atR])
theorem wp_scope {F : Fence} {P : Program} {Q : Exit → Act → World → Prop} {a : Act} {w : World} {c : Code} (hg : ∀ l a w, ¬ Q (.goto l) a w) (h : c.wpIn F 0 P Q a w) : (Code.scope c).wpIn F 0 P Q a w := by
 intro b k cs hro hb hr
 have h0 : (lone (b.atR a (.code (.scope c) :: k)) cs w).fenced P F := fenced_calm hb hr rfl
 obtain ⟨e, a₁, w₁, hq, harr⟩ := h b (.inScope c :: k) cs hro hb hr
 cases e with
 | normal => exact ⟨.normal, a₁, w₁, hq, .head h0 stepR_scope (StepsIn.trans harr (.one (fenced_calm hb hr rfl) stepR_inScope))⟩
 | exit id =>
  have hx : exitTo id (.inScope c :: k) = exitTo id k := by simp [exitTo]
  exact ⟨_, a₁, w₁, hq, fun k' hk => .head h0 stepR_scope (harr.1 k' (by rw [hx]; exact hk)), fun hr' hk => let ⟨k₁, h1, h2⟩ := harr.2 hr' (by rw [hx]; exact hk); ⟨k₁, h1, .head h0 stepR_scope h2⟩⟩
 | goto l => exact absurd hq (hg l a₁ w₁)
 | ret => exact ⟨_, a₁, w₁, hq, .of_steps (.one h0 stepR_scope) harr⟩
 | panic ch => exact ⟨_, a₁, w₁, hq, .of_steps (.one h0 stepR_scope) harr⟩
 | outgrown => exact ⟨_, a₁, w₁, hq, .of_steps (b := b) (k := k) (cs := cs) (e := .outgrown) (.one h0 stepR_scope) harr⟩
def FnsOk (P : Program) (H : FuncId → FH) : Prop :=
 P.follows .mixedOrders = true ∧ ∀ f fn c, P.funcs[f]? = some fn → fn.body = some c → (H f).ok = true → codeOk H (H f) fn.ntmps c = true ∧ (fn.name == "runtime.NumGoroutine") = false
section
variable {GL : List (Nat × List PV)} {ty : List TI} {P : Program} {H : FuncId → FH}
theorem callK_yld_ret {k id : Nat} {args : List AV} {σ σ' : List AObj} {v : AV} (h : callK P ⟨ty, GL⟩ H k (.yld id) args σ = some (.ret v, σ')) :
 ∃ k' pend nt f env ps a b s1 σ1 e s2 r, k = k' + 2 ∧ σ[id]? = some (.loop 0 pend nt f env ps a b) ∧ ps.length = args.length ∧ yldOk H f nt ps a b = true ∧
  evC P ⟨ty, GL⟩ H k' f σ.length 0 a { env := ps.zip (copyAs args) ++ env, σ := σ } = some (.normal, s1) ∧ setSt 0 s1.σ id 1 none = some σ1 ∧ evC P ⟨ty, GL⟩ H k' f σ.length 0 b { s1 with σ := σ1 } = some (e, s2) ∧ endYield id σ.length (e, s2) = some (.ret v, σ', r) := by
 cases k with
 | zero => rw [callK] at h; cases h
 | succ k =>
  rw [callK] at h
  obtain ⟨q, hq, hr⟩ := Option.bind_eq_some_iff.1 h
  injection hr with hr; injection hr with r1 r2
  cases k with
  | zero => rw [bodyK] at hq; cases hq
  | succ k =>
   rw [bodyK] at hq
   unfold bodyF at hq
   dsimp only at hq
   split at hq
   ·rename_i st pend nt f env ps a b h0
    split at hq
    ·rename_i hc
     obtain ⟨rfl, hl, hok⟩ := hc
     obtain ⟨x, hx1, hx2⟩ := Option.bind_eq_some_iff.1 hq
     obtain ⟨e1, s1⟩ := x
     cases e1 <;> simp only [yldBody] at hx2
     case normal =>
      split at hx2
      ·rename_i σ1 hσ1
       obtain ⟨y, hy1, hy2⟩ := Option.bind_eq_some_iff.1 hx2
       obtain ⟨e2, s2⟩ := y
       obtain ⟨q1, q2, q3⟩ := q
       simp only at r1 r2
       subst r1; subst r2
       exact ⟨k, pend, nt, f, env, ps, a, b, s1, σ1, e2, s2, q3, rfl, h0, hl, hok, hx1, hσ1, hy1, hy2⟩
      ·cases hx2
     all_goals cases hx2
    ·cases hq
   ·cases hq
theorem callK_prim {k f : Nat} {args : List AV} {σ σ' : List AObj} {v : AV} {p : List AV → Option AV} (hp : (H f).pr = some p) (h : callK P ⟨ty, GL⟩ H k (.fn f) args σ = some (.ret v, σ')) : p args = some v ∧ ltV 0 v = true ∧ σ' = σ := by
 cases k with
 | zero => rw [callK] at h; cases h
 | succ k =>
  rw [callK] at h
  obtain ⟨q, hq, hr⟩ := Option.bind_eq_some_iff.1 h
  cases k with
  | zero => rw [bodyK] at hq; cases hq
  | succ k =>
   rw [bodyK] at hq
   unfold bodyF at hq
   dsimp only at hq
   rw [hp] at hq
   dsimp only at hq
   unfold primO at hq
   split at hq
   ·rename_i v0 hv0
    split at hq
    ·rename_i hl
     injection hq with hq; subst hq
     injection hr with hr; injection hr with h1 h2
     injection h1 with h1
     subst h1
     exact ⟨hv0, hl, h2.symm⟩
    ·cases hq
   ·cases hq
theorem callK_ret {k f : Nat} {args : List AV} {σ σ' : List AObj} {v : AV} (hp0 : (H f).pr = none) (hdf : (H f).df = false) (h : callK P ⟨ty, GL⟩ H k (.fn f) args σ = some (.ret v, σ')) :
 ∃ k' fn c e s, k = k' + 2 ∧ P.funcs[f]? = some fn ∧ fn.body = some c ∧ (H f).ok = true ∧ evC P ⟨ty, GL⟩ H k' f σ.length 0 c { env := envOf 0 args, σ := σ } = some (e, s) ∧ (e = .normal ∨ e = .ret) ∧ finish ⟨ty, GL⟩ (H f) σ.length fn.results.toList s = some (.ret v, σ') := by
 cases k with
 | zero => rw [callK] at h; cases h
 | succ k =>
  rw [callK] at h
  obtain ⟨q, hq, hr⟩ := Option.bind_eq_some_iff.1 h
  cases k with
  | zero => rw [bodyK] at hq; cases hq
  | succ k =>
   rw [bodyK] at hq
   unfold bodyF at hq
   dsimp only at hq
   rw [hp0] at hq
   dsimp only at hq
   unfold bodyC at hq
   split at hq
   ·rename_i fn hf
    split at hq
    ·rename_i c hc
     split at hq
     ·cases hq
     ·rename_i hok
      rw [if_neg (by rw [hdf]; decide)] at hq
      obtain ⟨r, hr1, hr2⟩ := Option.bind_eq_some_iff.1 hq
      obtain ⟨p, hp, hp2⟩ := Option.bind_eq_some_iff.1 hr2
      obtain ⟨e, s⟩ := r
      have hd : ∀ {k : Nat} {pv : Option PV} {s : S} {r : Option PV × S}, dfsK P ⟨ty, GL⟩ H k pv s = some r → r = (pv, s) := by
       intro k pv s r h
       cases k with
       | zero => rw [dfsK] at h; cases h
       | succ k =>
        rw [dfsK] at h
        unfold dfsF at h
        split at h
        ·injection h with h; exact h.symm
        ·cases h
      cases hdk : dfsK P ⟨ty, GL⟩ H k p.1 p.2 with
      | none => rw [hdk] at hp2; cases hp2
      | some z =>
       rw [hdk, hd hdk] at hp2
       obtain ⟨p1, p2⟩ := p
       cases p1 with
       | some pv =>
        simp only [endBody] at hp2
        injection hp2 with hp2; subst hp2
        injection hr with hr; injection hr with hr _; cases hr
       | none =>
        simp only [endBody] at hp2
        have he : (e = .normal ∨ e = .ret) ∧ p2 = s := by
         unfold panOf at hp
         split at hp
         ·rename_i he; injection he with h1 h2; injection hp with hp; injection hp with _ hp; exact ⟨.inl h1, by rw [← hp, h2]⟩
         ·rename_i he; injection he with h1 h2; injection hp with hp; injection hp with _ hp; exact ⟨.inr h1, by rw [← hp, h2]⟩
         ·injection hp with hp; injection hp with hp _; cases hp
         ·cases hp
        obtain ⟨he1, rfl⟩ := he
        split at hp2
        ·rename_i o σ'' hfin
         injection hp2 with hp2; subst hp2
         injection hr with hr; injection hr with h1 h2
         simp only at h1 h2
         subst h1; subst h2
         exact ⟨k, fn, c, e, p2, rfl, hf, hc, by simpa using hok, hr1, he1, hfin⟩
        ·cases hp2
    ·cases hq
   ·cases hq
theorem callK_yld_pan {k id : Nat} {args : List AV} {σ σ' : List AObj} {v : PV} : callK P ⟨ty, GL⟩ H k (.yld id) args σ ≠ some (.pan v, σ') := by
 intro h
 cases k with
 | zero => rw [callK] at h; cases h
 | succ k =>
  rw [callK] at h
  obtain ⟨q, hq, hr⟩ := Option.bind_eq_some_iff.1 h
  injection hr with hr; injection hr with r1 r2
  cases k with
  | zero => rw [bodyK] at hq; cases hq
  | succ k =>
   rw [bodyK] at hq
   unfold bodyF at hq
   dsimp only at hq
   have yr : ∀ {n : Nat} {b : Bool} {x : Option (List AObj)}, yldRet n b x = some q → False := by
    intro n b x h
    cases x with
    | none => cases h
    | some y => injection h with h; subst h; cases r1
   split at hq
   ·split at hq
    ·obtain ⟨x, hx1, hx2⟩ := Option.bind_eq_some_iff.1 hq
     obtain ⟨e1, s1⟩ := x
     cases e1 <;> simp only [yldBody] at hx2
     case normal =>
      split at hx2
      ·obtain ⟨y, hy1, hy2⟩ := Option.bind_eq_some_iff.1 hx2
       obtain ⟨e2, s2⟩ := y
       cases e2 <;> simp only [endYield] at hy2
       case pan => cases hy2
       all_goals exact yr hy2
      ·cases hx2
     all_goals cases hx2
    ·cases hq
   ·cases hq
theorem finish_ret {h : FH} {base : Nat} {rs : List ResultVar} {s : S} {o : Out} {σ' : List AObj} (hf : finish ⟨ty, GL⟩ h base rs s = some (o, σ')) : ∃ v, o = .ret v := by
 unfold finish at hf
 split at hf
 ·split at hf
  ·injection hf with hf; injection hf with h1 _; exact ⟨_, h1.symm⟩
  ·cases hf
 ·cases hf
theorem bodyD_some {E : EvT} {f : FuncId} {rs : List ResultVar} {c : Code} {args : List AV} {σ : List AObj} {q : Out × List AObj × Bool} (h : bodyD P ⟨ty, GL⟩ H E f rs c args σ = some q) :
 ∃ a all cl b s1 s2 gf gargs e s3 pv σ1, splitD c = some (a, all, cl, b) ∧ E f σ.length 0 a { env := envOf 0 args, σ := σ } = some (.normal, s1) ∧ preD ⟨ty, GL⟩ H f σ.length all (.normal, s1) = some (.normal, s2) ∧ fnArgs ⟨ty, GL⟩ s2.env cl = some (gf, gargs) ∧
  E f σ.length 0 b s2 = some (e, s3) ∧ (((e = .normal ∨ e = .ret) ∧ pv = none) ∨ ∃ v, e = .pan v ∧ pv = some v) ∧ guardF P H E gf gargs s3.σ pv = some σ1 ∧ finish ⟨ty, GL⟩ (H f) σ.length rs { s3 with σ := σ1 } = some (q.1, q.2.1) := by
 unfold bodyD at h
 split at h
 ·rename_i a all cl b hsp
  unfold retO at h
  obtain ⟨z, hz, hq⟩ := Option.map_eq_some_iff.1 h
  obtain ⟨r1, h1, hz⟩ := Option.bind_eq_some_iff.1 hz
  obtain ⟨r2, h2, hz⟩ := Option.bind_eq_some_iff.1 hz
  subst hq
  obtain ⟨e1, s1⟩ := r1
  obtain ⟨e2, s2⟩ := r2
  cases e1 <;> simp only [preD] at h2
  case normal =>
   cases e2 <;> simp only [deferD] at hz
   case normal =>
    obtain ⟨⟨gf, gargs⟩, h3, hz⟩ := Option.bind_eq_some_iff.1 hz
    obtain ⟨r3, h4, hz⟩ := Option.bind_eq_some_iff.1 hz
    obtain ⟨e3, s3⟩ := r3
    cases e3 <;> simp only [endD] at hz
    case normal =>
     obtain ⟨σ1, h5, h6⟩ := Option.bind_eq_some_iff.1 hz
     exact ⟨a, all, cl, b, s1, s2, gf, gargs, _, s3, none, σ1, hsp, h1, h2, h3, h4, .inl ⟨.inl rfl, rfl⟩, h5, h6⟩
    case ret =>
     obtain ⟨σ1, h5, h6⟩ := Option.bind_eq_some_iff.1 hz
     exact ⟨a, all, cl, b, s1, s2, gf, gargs, _, s3, none, σ1, hsp, h1, h2, h3, h4, .inl ⟨.inr rfl, rfl⟩, h5, h6⟩
    case pan v =>
     obtain ⟨σ1, h5, h6⟩ := Option.bind_eq_some_iff.1 hz
     exact ⟨a, all, cl, b, s1, s2, gf, gargs, _, s3, some v, σ1, hsp, h1, h2, h3, h4, .inr ⟨v, rfl, rfl⟩, h5, h6⟩
    case exit => cases hz
   all_goals cases hz
  all_goals cases h2
 ·cases h
theorem callK_D {k f : Nat} {args : List AV} {σ σ' : List AObj} {o : Out} (hp0 : (H f).pr = none) (hdf : (H f).df = true) (h : callK P ⟨ty, GL⟩ H k (.fn f) args σ = some (o, σ')) :
 ∃ k' fn c r, k = k' + 2 ∧ P.funcs[f]? = some fn ∧ fn.body = some c ∧ (H f).ok = true ∧ bodyD P ⟨ty, GL⟩ H (evC P ⟨ty, GL⟩ H k') f fn.results.toList c args σ = some (o, σ', r) := by
 cases k with
 | zero => rw [callK] at h; cases h
 | succ k =>
  rw [callK] at h
  obtain ⟨q, hq, hr⟩ := Option.bind_eq_some_iff.1 h
  cases k with
  | zero => rw [bodyK] at hq; cases hq
  | succ k =>
   rw [bodyK] at hq
   unfold bodyF at hq
   dsimp only at hq
   rw [hp0] at hq
   dsimp only at hq
   unfold bodyC at hq
   split at hq
   ·rename_i fn hf
    split at hq
    ·rename_i c hc
     split at hq
     ·cases hq
     ·rename_i hok
      obtain ⟨q1, q2, q3⟩ := q
      injection hr with hr; injection hr with h1 h2
      simp only at h1 h2
      subst h1; subst h2
      exact ⟨k, fn, c, q3, rfl, hf, hc, by simpa using hok, hq⟩
    ·cases hq
   ·cases hq
theorem callK_pan {k f : Nat} {args : List AV} {σ σ' : List AObj} {v : PV} (h : callK P ⟨ty, GL⟩ H k (.fn f) args σ = some (.pan v, σ')) :
 ∃ k' fn c s, k = k' + 2 ∧ P.funcs[f]? = some fn ∧ fn.body = some c ∧ (H f).ok = true ∧ evC P ⟨ty, GL⟩ H k' f σ.length 0 c { env := envOf 0 args, σ := σ } = some (.pan v, s) ∧ σ' = s.σ.take σ.length := by
 cases hdf : (H f).df with
 | true =>
  cases hpr : (H f).pr with
  | none =>
   obtain ⟨k', fn, c, r, _, _, _, _, hb⟩ := callK_D hpr hdf h
   obtain ⟨_, _, _, _, _, _, _, _, _, _, _, _, _, _, _, _, _, _, _, hfin⟩ := bodyD_some hb
   obtain ⟨_, ho⟩ := finish_ret hfin
   cases ho
  | some p =>
   exfalso
   cases k with
   | zero => rw [callK] at h; cases h
   | succ k =>
    rw [callK] at h
    obtain ⟨q, hq, hr⟩ := Option.bind_eq_some_iff.1 h
    cases k with
    | zero => rw [bodyK] at hq; cases hq
    | succ k =>
     rw [bodyK] at hq
     unfold bodyF at hq
     dsimp only at hq
     rw [hpr] at hq
     dsimp only at hq
     unfold primO at hq
     split at hq
     ·split at hq
      ·injection hq with hq; subst hq; injection hr with hr; injection hr with h1 _; cases h1
      ·cases hq
     ·cases hq
 | false =>
 cases k with
 | zero => rw [callK] at h; cases h
 | succ k =>
  rw [callK] at h
  obtain ⟨q, hq, hr⟩ := Option.bind_eq_some_iff.1 h
  cases k with
  | zero => rw [bodyK] at hq; cases hq
  | succ k =>
   rw [bodyK] at hq
   unfold bodyF at hq
   dsimp only at hq
   split at hq
   ·unfold primO at hq
    split at hq
    ·split at hq
     ·injection hq with hq; subst hq; injection hr with hr; injection hr with h1 _; cases h1
     ·cases hq
    ·cases hq
   unfold bodyC at hq
   split at hq
   ·rename_i fn hf
    split at hq
    ·rename_i c hc
     split at hq
     ·cases hq
     ·rename_i hok
      rw [if_neg (by rw [hdf]; decide)] at hq
      obtain ⟨r, hr1, hr2⟩ := Option.bind_eq_some_iff.1 hq
      obtain ⟨p, hp, hp2⟩ := Option.bind_eq_some_iff.1 hr2
      obtain ⟨e, s⟩ := r
      have hd : ∀ {k : Nat} {pv : Option PV} {s : S} {r : Option PV × S}, dfsK P ⟨ty, GL⟩ H k pv s = some r → r = (pv, s) := by
       intro k pv s r h
       cases k with
       | zero => rw [dfsK] at h; cases h
       | succ k =>
        rw [dfsK] at h
        unfold dfsF at h
        split at h
        ·injection h with h; exact h.symm
        ·cases h
      cases hdk : dfsK P ⟨ty, GL⟩ H k p.1 p.2 with
      | none => rw [hdk] at hp2; cases hp2
      | some z =>
       rw [hdk, hd hdk] at hp2
       obtain ⟨p1, p2⟩ := p
       cases p1 with
       | none =>
        simp only [endBody] at hp2
        split at hp2
        ·rename_i o σ'' hfin
         injection hp2 with hp2; subst hp2
         injection hr with hr; injection hr with h1 h2
         simp only at h1
         obtain ⟨_, ho⟩ := finish_ret hfin
         rw [h1] at ho; cases ho
        ·cases hp2
       | some pv =>
        simp only [endBody] at hp2
        injection hp2 with hp2; subst hp2
        injection hr with hr; injection hr with h1 h2
        injection h1 with h1; subst h1
        unfold panOf at hp
        split at hp
        ·injection hp with hp; injection hp with hp _; cases hp
        ·injection hp with hp; injection hp with hp _; cases hp
        ·rename_i he
         injection he with e1 e2
         injection hp with hp; injection hp with e3 e4
         injection e3 with e3
         subst e1; subst e2; subst e3; subst e4
         exact ⟨k, fn, c, _, rfl, hf, hc, by simpa using hok, hr1, h2.symm⟩
        ·cases hp
    ·cases hq
   ·cases hq
theorem roV_rel {g : G} {t : Nat} {v : AV} {V : Value} {h : FH} (hr : RelS g t v V) : RelS g t (roV h v) V := by
 unfold roV
 split
 ·exact hr
 ·exact RelS.of_A (RelX.copy (x := .tmp t) hr)
theorem finish_some {h : FH} {base : Nat} {rs : List ResultVar} {s : S} {o : Out} {σ' : List AObj} (hf : finish ⟨ty, GL⟩ h base rs s = some (o, σ')) : ∃ v v', resultsOf ⟨ty, GL⟩ s rs = some v ∧ retV (finN h base s) s.σ (roV h v) = some v' ∧ o = .ret v' ∧ σ' = s.σ.take (finN h base s) := by
 unfold finish at hf
 split at hf
 ·rename_i v hv
  split at hf
  ·rename_i v' hv'
   injection hf with hf; injection hf with h1 h2
   exact ⟨v, v', hv, hv', h1.symm, h2.symm⟩
  ·cases hf
 ·cases hf
theorem callK_lt {k : Nat} (f : FuncId) (args : List AV) (v : AV) (σ' : List AObj) (hp : (H f).pu = true) (h : callK P ⟨ty, GL⟩ H k (.fn f) args [] = some (.ret v, σ')) : ltV 0 v = true := by
 cases hpr : (H f).pr with
 | some p => exact (callK_prim hpr h).2.1
 | none =>
 have fin : ∀ (rs : List ResultVar) (s : S), finish ⟨ty, GL⟩ (H f) ([] : List AObj).length rs s = some (.ret v, σ') → ltV 0 v = true := by
  intro rs s hfin
  obtain ⟨x, v', _, hr, ho, _⟩ := finish_some hfin
  injection ho with ho; subst ho
  have : finN (H f) ([] : List AObj).length s = 0 := by simp [finN, hp]
  rw [this] at hr
  exact retV_lt hr
 cases hdf : (H f).df with
 | true =>
  obtain ⟨k', fn, c, r, _, _, _, _, hb⟩ := callK_D hpr hdf h
  obtain ⟨_, _, _, _, _, _, _, _, _, _, _, _, _, _, _, _, _, _, _, hfin⟩ := bodyD_some hb
  exact fin _ _ hfin
 | false =>
 obtain ⟨k', fn, c, e, s, _, _, _, _, _, _, hfin⟩ := callK_ret hpr hdf h
 exact fin _ _ hfin
variable {B0 : Nat} {w0 : World} {g : G} {tm : Array Value} {w : World}
theorem res_one (hT : TabOk P ⟨ty, GL⟩) {s : S} (hI : Inv GL B0 w0 g s.env s.σ tm w) {r : ResultVar} {v : AV} (hr : resOf ⟨ty, GL⟩ s r = some v) : ∃ V t0, (resM tm r).run P w = .ok V w ∧ RelS g t0 v V := by
 cases r with
 | tmp t =>
  injection hr with hr; subst hr
  exact ⟨_, t, rfl, hI.env t⟩
 | cell a t =>
  unfold resOf at hr
  dsimp only at hr
  split at hr
  ·rename_i v0 hv0
   injection hr with hr; subst hr
   obtain ⟨ad, V, e, hV, hR⟩ := loadV_rel (P := P) hT hI (x := .tmp a) hv0
   refine ⟨V, 0, ?_, RelS.of_A hR⟩
   have e' : tm.getD a Go.undef = .pointer (some ad) := e
   unfold resM
   simp only [e', Sem.run_bind]
   simp [asAddr, hV]
  ·cases hr
theorem res_all (hT : TabOk P ⟨ty, GL⟩) {s : S} (hI : Inv GL B0 w0 g s.env s.σ tm w) : ∀ {rs : List ResultVar} {vs : List AV}, resL ⟨ty, GL⟩ s rs = some vs → ∃ Vs, (rs.mapM (resM tm)).run P w = .ok Vs w ∧ vs.length = Vs.length ∧ Vs.length = rs.length ∧ ∀ (i : Nat) v, vs[i]? = some v → ∃ V t0, Vs[i]? = some V ∧ RelS g t0 v V
 | [], vs, h => by
  simp [resL] at h; subst h
  exact ⟨[], by simp, rfl, rfl, fun i v hv => by simp at hv⟩
 | r :: rs, vs, h => by
  simp only [resL] at h
  split at h
  ·rename_i v l h1 h2
   injection h with h; subst h
   obtain ⟨V, t0, hV, hR⟩ := res_one (P := P) hT hI h1
   obtain ⟨Vs, hVs, hl, hl2, hRs⟩ := res_all hT hI h2
   refine ⟨V :: Vs, by simp [hV, hVs], by simp [hl], by simp [hl2], fun i x hx => ?_⟩
   cases i with
   | zero => simp at hx; subst hx; exact ⟨V, t0, by simp, hR⟩
   | succ i => simp at hx; simpa using hRs i x hx
  ·cases h
theorem results_rel (hT : TabOk P ⟨ty, GL⟩) {s : S} (hI : Inv GL B0 w0 g s.env s.σ tm w) {fn : Func} {v : AV} (hr : resultsOf ⟨ty, GL⟩ s fn.results.toList = some v) : ∃ V t0, (results fn tm).run P w = .ok V w ∧ RelS g t0 v V := by
 rw [results_eq, Array.mapM_eq_mapM_toList]
 unfold resultsOf at hr
 split at hr
 ·rename_i r he
  obtain ⟨V, t0, hV, hR⟩ := res_one (P := P) hT hI hr
  refine ⟨V, t0, ?_, hR⟩
  rw [he]
  simp [hV]
 ·rename_i l hne
  split at hr
  ·rename_i vs hvs
   injection hr with hr; subst hr
   obtain ⟨Vs, hVs, hl, hl2, hRs⟩ := res_all (P := P) hT hI hvs
   have hn1 : Vs.length ≠ 1 := fun e => by
    rw [hl2] at e
    match hq : fn.results.toList, e with
    | [r], _ => exact hne r hq
   refine ⟨.tuple Vs.toArray, 0, ?_, RelS.of_A (mkTup_rel ?_)⟩
   ·simp [hVs, hn1]
   ·have hce : ∀ l : List AV, copyAs l = l.map copyA := fun l => by
     induction l with
     | nil => rfl
     | cons a l ih => simp [copyAs, ih]
    rw [hce]
    refine RelAL.mk (by simpa using hl) fun i c hc => ?_
    rw [List.getElem?_map] at hc
    obtain ⟨c', hc', rfl⟩ := Option.map_eq_some_iff.1 hc
    obtain ⟨V, t0, hV, hR⟩ := hRs i c' hc'
    exact ⟨V, hV, RelX.copy (x := .tmp t0) hR⟩
  ·cases hr
theorem hnr1 {nr a b : Bool} (h : nr = true → (a && b) = true) : nr = true → a = true := fun e => (Bool.and_eq_true .. ▸ h e).1
theorem hnr2 {nr a b : Bool} (h : nr = true → (a && b) = true) : nr = true → b = true := fun e => (Bool.and_eq_true .. ▸ h e).2
theorem EvPost.of {nr : Bool} {a a1 : Act} {g1 : G} {w1 : World} {Ds : List Nat} {e : Ex} {s' : S} (hP : Post g w g1 w1) (h1 : a1.tmps.size = a.tmps.size) (h2 : a1.defers = Ds.map markD ++ a.defers) (h3 : Marks g1 w.heap.size w1 Ds) (h4 : nr = true → Ds = []) {x : Exit} {a' : Act} {w' : World} (h : EvPost nr GL B0 w0 g1 w1 a1 e s' x a' w') : EvPost nr GL B0 w0 g w a e s' x a' w' := by
 obtain ⟨hx, g', Es, hI, hP', hz, hd, hm, hp, hq⟩ := h
 refine ⟨hx, g', Es ++ Ds, hI, hP.trans hP', hz.trans h1, by rw [hd, h2, List.map_append, List.append_assoc], (h3.keep hP').app hm (fun D hD => (h3.2 D hD).2.1) hP.size, hp, fun h => by rw [h4 h, hq h]; rfl⟩
def RoOk (ro : Option Nat) (w : World) : Prop := ∀ l, ro = some l → ∃ r, w.heap[l]? = some (.loop r)
theorem RoOk.keep {ro : Option Nat} {w w' : World} {g g' : G} (h : RoOk ro w) (hP : Post g w g' w') : RoOk ro w' := fun l hl => let ⟨r, hr⟩ := h l hl; hP.loops l r hr
def PrimOk (P : Program) (GL : List (Nat × List PV)) (H : FuncId → FH) : Prop :=
 ∀ f p, (H f).pr = some p → ∀ args v, p args = some v → ltV 0 v = true → ∀ (σ : List AObj) B0 w0 g Args w, Inv GL B0 w0 g (envOf 0 args) σ Args w → args.length = Args.size →
  (∃ fn, P.funcs[f]? = some fn ∧ fn.body.isSome = true ∧ (fn.name == "runtime.NumGoroutine") = false) ∧
  Calls P f Args w fun e w' => ∃ V g', e = .returned V ∧ Inv GL B0 w0 g' [(0, v)] σ #[V] w' ∧ Post g w g' w'
theorem PrimOk.none {P : Program} {GL : List (Nat × List PV)} {H : FuncId → FH} (h : ∀ f, (H f).pr = none) : PrimOk P GL H := fun f p hp => by rw [h f] at hp; cases hp
def EvSim (P : Program) (ty : List TI) (GL : List (Nat × List PV)) (H : FuncId → FH) (k : Nat) : Prop :=
 ∀ fi base blk c s e s' N, evC P ⟨ty, GL⟩ H k fi base blk c s = some (e, s') → codeOk H (H fi) N c = true → ∀ nr, (nr = true → noRF c = true) → ∀ ro B0 w0 g (a : Act) w, RoOk ro w → Inv GL B0 w0 g s.env s.σ a.tmps w → N ≤ a.tmps.size → base ≤ s.σ.length → c.wpIn (FW ro) 0 P (EvPost nr GL B0 w0 g w a e s') a w
theorem Inv.pad {env : Env} {σ : List AObj} (hI : Inv GL B0 w0 g env σ tm w) (n : Nat) : Inv GL B0 w0 g env σ (tm ++ Array.replicate n Go.undef) w := by
 refine ⟨hI.below, hI.base, hI.fz, hI.tlt, hI.own, fun t => ?_, hI.objs, hI.len, hI.glob, hI.mlt⟩
 by_cases ht : t < tm.size
 ·rw [append_get_lt ht]; exact hI.env t
 ·have h := hI.env t
  rw [show tm.getD t Go.undef = Go.undef by rw [Array.getD_eq_getD_getElem?, Array.getElem?_eq_none (by omega)]; rfl] at h
  have : (tm ++ Array.replicate n Go.undef).getD t Go.undef = Go.undef := by
   rw [Array.getD_eq_getD_getElem?, Array.getElem?_append_right (by omega), Array.getElem?_replicate]
   split <;> rfl
  rw [this]
  exact h.undef_any
theorem array_one {α : Type} {a : Array α} {x : α} (h : a.toList = [x]) : a = #[x] := by
 apply Array.ext'; simpa using h
theorem splitR_some {c b : Code} {d : Nat} (h : splitR c = some (d, b)) : ∃ id o cl, c = .seq (.region id #[o] false) b ∧ o.op = .call cl ∧ cl.callee = .builtin .recover ∧ o.dst = some d ∧ o.guard = none := by
 unfold splitR at h
 split at h
 ·rename_i id ops b'
  split at h
  ·rename_i o ho
   split at h
   ·rename_i cl d' h1 h2 h3
    split at h
    ·rename_i h4
     injection h with h; injection h with e1 e2; subst e1; subst e2
     exact ⟨id, o, cl, by rw [array_one ho], h1, h4, h2, h3⟩
    ·cases h
   ·cases h
  ·cases h
 ·cases h
theorem splitD_some {c a b : Code} {all : List Oper} {cl : Call} (h : splitD c = some (a, all, cl, b)) : ∃ id o, c = .seq a (.seq (.region id #[o] false) b) ∧ all = [o] ∧ o.op = .defer cl ∧ o.dst = none ∧ o.guard = none := by
 unfold splitD at h
 split at h
 ·rename_i a' id ops b'
  split at h
  ·rename_i o ho
   split at h
   ·rename_i cl' h1 h2 h3
    injection h with h; injection h with e1 h; injection h with e2 h; injection h with e3 e4
    subst e1; subst e2; subst e3; subst e4
    exact ⟨id, o, by rw [array_one ho], rfl, h1, h2, h3⟩
   ·cases h
  ·cases h
 ·cases h
def ModeR (g : G) (pv : Option PV) (u : FrameMode) : Prop :=
 (pv = none ∧ u = .returning) ∨ ∃ v V, pv = some v ∧ u = .panicking [{ v := V, recovered := false }] ∧ RelP g.Φ v V
theorem ModeR.run {g : G} {pv : Option PV} {u : FrameMode} (h : ModeR g pv u) : u ≠ .run := by
 rcases h with ⟨_, rfl⟩ | ⟨_, _, _, rfl, _⟩ <;> simp
theorem guardF_some {E : EvT} {gf : FuncId} {args : List AV} {σ σ1 : List AObj} {pv : Option PV} (h : guardF P H E gf args σ pv = some σ1) :
 ∃ fn c d b e s, P.funcs[gf]? = some fn ∧ fn.body = some c ∧ splitR c = some (d, b) ∧ (H gf).ok = true ∧ fn.results.toList = [] ∧ d < fn.ntmps ∧ args.length ≤ d ∧ noRF b = true ∧ E gf σ.length 0 b { env := (d, pvA pv) :: envOf 0 args, σ := σ } = some (e, s) ∧ (e = .normal ∨ e = .ret) ∧ σ1 = s.σ.take σ.length := by
 unfold guardF at h
 split at h
 ·rename_i fn hf
  split at h
  ·rename_i c hc
   split at h
   ·rename_i d b hs
    split at h
    ·rename_i hk
     obtain ⟨r, hr, h⟩ := Option.bind_eq_some_iff.1 h
     obtain ⟨e, s⟩ := r
     cases e <;> simp only [guardEnd] at h
     case normal => injection h with h; exact ⟨fn, c, d, b, _, s, hf, hc, hs, hk.1, hk.2.2.1, hk.2.2.2.1, hk.2.2.2.2.1, hk.2.2.2.2.2, hr, .inl rfl, h.symm⟩
     case ret => injection h with h; exact ⟨fn, c, d, b, _, s, hf, hc, hs, hk.1, hk.2.2.1, hk.2.2.2.1, hk.2.2.2.2.1, hk.2.2.2.2.2, hr, .inr rfl, h.symm⟩
     all_goals cases h
    ·cases h
   ·cases h
  ·cases h
 ·cases h
theorem guard_sim (hT : TabOk P ⟨ty, GL⟩) (hF : FnsOk P H) {k : Nat} (ihE : EvSim P ty GL H k) {gf : FuncId} {args : List AV} {σ σ1 : List AObj} {pv : Option PV} (h : guardF P H (evC P ⟨ty, GL⟩ H k) gf args σ pv = some σ1) {Args : Array Value}
 (hI : Inv GL B0 w0 g (envOf 0 args) σ Args w) (hl : args.length = Args.size) {u : FrameMode} (hu : ModeR g pv u) :
 (∃ fn, P.funcs[gf]? = some fn ∧ fn.body.isSome = true ∧ (fn.name == "runtime.NumGoroutine") = false) ∧
 CallsDIn (FW none) 0 P gf Args u w fun e u' w' => ∃ V g', e = .returned V ∧ settle u' = .returning ∧ Inv GL B0 w0 g' [(0, .undef)] σ1 #[V] w' ∧ Post g w g' w' := by
 obtain ⟨fn, c, d, b, e, s, hf, hc, hs, hok, hrs, hdn, had, hnr, hev, he, hσ⟩ := guardF_some h
 obtain ⟨hco, hnm⟩ := hF.2 gf fn c hf hc hok
 obtain ⟨id, o, cl, rfl, h1, h2, h3, h4⟩ := splitR_some hs
 refine ⟨⟨fn, hf, by rw [hc]; rfl, hnm⟩, callsDIn_of_wpSIn hf hc trivial fun c₀ cs hu0 => ?_⟩
 have hgr := (ev_grows (P := P) (T := ⟨ty, GL⟩) (H := H) k).1
 unfold codeOk at hco
 simp only [Bool.and_eq_true] at hco
 refine wpSIn_seq (wpSIn_region ?_)
 have hsz : (List.range (#[o] : Array Oper).size) = [0] := rfl
 rw [hsz]
 have hw : ∀ y, Region.wanted o y = true := fun y => by unfold Region.wanted; rw [h4]
 have hrun : ∀ ρ, (execOp ρ o).run P w = .ok .recover w := fun ρ => by
  unfold execOp; rw [h1]
  simp [resolve, h2, invoke, builtin]
 have hdm : d < (Args ++ Array.replicate (fn.ntmps - Args.size) Go.undef).size := by simp; omega
 have rest : ∀ (V : Value) (cs' : List Frame) (u' : FrameMode), cs' = { c₀ with mode := u' } :: cs → settle u' = .returning → RelA g (fun _ => False) (pvA pv) V →
  Exit.thenS (b.wpSIn (FW none) 0 P (bodyPostS P fn c₀ cs fun e u' w' => ∃ V g', e = .returned V ∧ settle u' = .returning ∧ Inv GL B0 w0 g' [(0, .undef)] σ1 #[V] w' ∧ Post g w g' w')) (bodyPostS P fn c₀ cs fun e u' w' => ∃ V g', e = .returned V ∧ settle u' = .returning ∧ Inv GL B0 w0 g' [(0, .undef)] σ1 #[V] w' ∧ Post g w g' w') .normal (({ tmps := Args ++ Array.replicate (fn.ntmps - Args.size) Go.undef, defers := [] } : Act).put o.dst V) cs' w := by
  intro V cs' u' hcs hst hV
  show b.wpSIn (FW none) 0 P _ _ cs' w
  obtain ⟨e1, e2⟩ := act_put ({ tmps := Args ++ Array.replicate (fn.ntmps - Args.size) Go.undef, defers := [] } : Act) o.dst V
  have hI1 : Inv GL B0 w0 g ((d, pvA pv) :: envOf 0 args) σ (({ tmps := Args ++ Array.replicate (fn.ntmps - Args.size) Go.undef, defers := [] } : Act).put o.dst V).tmps w := by
   rw [e1, h3]
   exact (hI.pad _).value hdm (RelS.of_A hV)
  refine wpSIn_of_wpIn rfl (wpIn_mono (ihE _ _ _ _ _ _ _ fn.ntmps hev hco.2 true (fun _ => hnr) none B0 w0 g _ w (fun l hl => by cases hl) hI1 (by rw [e1, putT_size]; simp; omega) (Nat.le_refl _)) fun x a' w' hx => ?_)
  obtain ⟨hx1, g1, Ds1, hI2, hP1, hz1, hd1, hm1, hp1, hq1⟩ := hx
  have hgrow : Grows σ.length σ s.σ := hgr _ σ.length _ _ _ _ _ (by exact Nat.le_refl _) hev
  have hdef : a'.defers = [] := by rw [hd1, hq1 rfl, e2]; rfl
  have hres : (results fn a'.tmps).run P w' = .ok (.tuple #[]) w' := by
   rw [results_eq]
   have : fn.results = #[] := by apply Array.ext'; simpa using hrs
   rw [this]; simp
  have hL : Low σ.length s.σ := hgrow.2 _ (Nat.le_refl _) (Nat.le_refl _) hI.low
  have hfin : Inv GL B0 w0 (g1.trunc σ.length) [(0, .undef)] σ1 #[.tuple #[]] w' := by
   rw [hσ]
   exact (hI2.reframe (env' := [(0, .undef)]) (tm' := #[.tuple #[]]) (fun t => by
    have : get [(0, AV.undef)] t = .undef := by
     simp only [get]; split <;> rfl
    rw [this]
    unfold RelS RelA; trivial)).trunc hgrow.1 rfl hL
  have hall : bodyPostS P fn c₀ cs (fun e u' w' => ∃ V g', e = .returned V ∧ settle u' = .returning ∧ Inv GL B0 w0 g' [(0, .undef)] σ1 #[V] w' ∧ Post g w g' w') .normal a' cs' w' :=
   ⟨hdef, u', hcs, _, hres, _, _, rfl, hst, hfin, hP1.trunc (by rw [hI.len]; exact Nat.le_refl _)⟩
  rcases he with rfl | rfl
  ·have : x = .normal := hx1
   subst this; exact hall
  ·have : x = .ret := hx1
   subst this; exact hall
 show wpOpsSIn (FW none) 0 P #[o] _ [0] _ (c₀ :: cs) w
 unfold wpOpsSIn
 simp only [List.getElem?_toArray, List.getElem?_cons_zero, hw, if_true, hrun]
 refine ⟨fun _ _ => trivial, ?_⟩
 rcases hu with ⟨rfl, rfl⟩ | ⟨v, V, rfl, rfl, hv⟩
 ·have hrec : recoverD (c₀ :: cs) = none := by simp [recoverD, hu0]
  rw [hrec]
  exact rest _ _ .returning (by rw [← hu0]) rfl (by unfold pvA RelA RelP; exact ⟨rfl, rfl⟩)
 ·have hrec : recoverD (c₀ :: cs) = some (V, { c₀ with mode := .panicking [{ v := V, recovered := true }] } :: cs) := by simp [recoverD, hu0]
  rw [hrec]
  exact rest _ _ _ rfl rfl (by unfold pvA RelA; exact hv)
theorem defer_sim (hT : TabOk P ⟨ty, GL⟩) (hF : FnsOk P H) {k : Nat} (ihE : EvSim P ty GL H k) {f : FuncId} {fn : Func} {c : Code} {args : List AV} {σ σ' : List AObj} {v : AV} {rr : Bool} (hf : P.funcs[f]? = some fn) (hc : fn.body = some c) (hok : (H f).ok = true)
 (hb : bodyD P ⟨ty, GL⟩ H (evC P ⟨ty, GL⟩ H k) f fn.results.toList c args σ = some (.ret v, σ', rr)) {Args : Array Value} (hI : Inv GL B0 w0 g (envOf 0 args) σ Args w) (hl : args.length = Args.size) :
 Calls P f Args w fun e w' => ∃ V g', e = .returned V ∧ Inv GL B0 w0 g' [(0, v)] σ' #[V] w' ∧ Post g w g' w' := by
 obtain ⟨a, all, cl, b, s1, s2, gf, gargs, e, s3, pv, σ1, hsp, hE1, hpre, hfa, hE2, hmode, hgd, hfin⟩ := bodyD_some hb
 obtain ⟨id, o, rfl, rfl, h1, h2, h3⟩ := splitD_some hsp
 obtain ⟨hco, _⟩ := hF.2 f fn _ hf hc hok
 have hs2 : s2 = s1 := by
  simp only [preD, List.dropLast, stepOps, exOf] at hpre
  injection hpre with hpre; injection hpre with _ hpre; exact hpre.symm
 subst hs2
 have hgr := (ev_grows (P := P) (T := ⟨ty, GL⟩) (H := H) k).1
 unfold codeOk at hco
 simp only [Bool.and_eq_true] at hco
 obtain ⟨hcoa, hcob⟩ := hco
 unfold codeOk at hcob
 simp only [Bool.and_eq_true] at hcob
 obtain ⟨_, hcob⟩ := hcob
 have hg1 : Grows σ.length σ s2.σ := hgr _ σ.length _ _ _ _ _ (by exact Nat.le_refl _) hE1
 have hg2 : Grows σ.length σ s3.σ := hg1.trans (hgr _ σ.length _ _ _ _ _ (by exact hg1.1) hE2)
 have hg3 : Grows σ.length σ σ1 := hg2.trans ((guardF_grows hgr hgd).le hg2.1)
 obtain ⟨u0, v', hres, hret, ho, hσ⟩ := finish_some hfin
 injection ho with ho; subst ho
 have hI0 := hI.pad (fn.ntmps - Args.size)
 refine (callsIn_FW (ro := none) (n := 0)).1 (callsIn_of_wp_marks hf hc trivial ?_)
 refine wpIn_seq (wpIn_mono (ihE _ _ _ _ _ _ _ fn.ntmps hE1 hcoa false (fun h => by cases h) none B0 w0 g ⟨Args ++ Array.replicate (fn.ntmps - Args.size) Go.undef, []⟩ w (fun l hl => by cases hl) hI0 (by simp; omega) (Nat.le_refl _)) fun x a1 w1 hx => ?_)
 obtain ⟨hx1, g1, Ds1, hI1, hP1, hz1, hd1, hm1, hp1, hq1⟩ := hx
 have : x = .normal := hx1
 subst this
 refine wpIn_seq (wpIn_region ?_)
 have hsz : (List.range (#[o] : Array Oper).size) = [0] := rfl
 rw [hsz]
 have hw : ∀ y, Region.wanted o y = true := fun y => by unfold Region.wanted; rw [h3]
 obtain ⟨fv, caps, hcal, hfe, hAL⟩ : ∃ (fv : Operand) (caps : List Value), cl.callee = .value fv ∧ evT a1.tmps fv = .func (.func gf) #[] caps.toArray ∧ RelAL g1 gargs (cl.args.toList.map (evT a1.tmps) ++ caps) := by
  unfold fnArgs at hfa
  split at hfa
  ·rename_i fv hcal
   have hfr := hI1.rd (ty := ty) fv
   split at hfa
   ·rename_i gf' hv
    injection hfa with hfa; injection hfa with e1 e2; subst e1; subst e2
    rw [hv] at hfr
    have hp := hfr.pure
    unfold RelP at hp
    exact ⟨fv, [], hcal, hp, by rw [List.append_nil]; exact relL_map hI1 _⟩
   ·rename_i gf' cap hv
    injection hfa with hfa; injection hfa with e1 e2; subst e1; subst e2
    rw [hv] at hfr
    have hp := hfr.any (fun _ => by simp)
    unfold RelA at hp
    obtain ⟨caps, hp, hcr⟩ := hp
    refine ⟨fv, caps, hcal, hp, ?_⟩
    obtain ⟨q1, q2⟩ := (relL_map (ty := ty) hI1 cl.args.toList).get
    obtain ⟨q3, q4⟩ := hcr.get
    refine RelAL.mk (by rw [List.length_append, List.length_append, q1, q3]) fun i c hic => ?_
    by_cases hlt : i < (cl.args.toList.map (fun x => rdc ⟨ty, GL⟩ s2.env x)).length
    ·rw [List.getElem?_append_left hlt] at hic
     obtain ⟨u, hu, hr⟩ := q2 i c hic
     exact ⟨u, by rw [List.getElem?_append_left (by rw [← q1]; exact hlt)]; exact hu, hr⟩
    ·rw [List.getElem?_append_right (by omega)] at hic
     obtain ⟨u, hu, hr⟩ := q4 _ c hic
     exact ⟨u, by rw [List.getElem?_append_right (by rw [← q1]; omega), ← q1]; exact hu, hr⟩
   ·cases hfa
  ·cases hfa
 have hrun : (o.semAt none a1.eval).run P w1 = .ok (.defer { target := .fn (.func gf) caps.toArray, args := cl.args.map (evT a1.tmps) }) w1 := by
  rw [Oper.semAt_none, eval_evT]
  unfold execOp; rw [h1]
  simp [resolve, hcal, hfe, Deferred.ofValue]
 show wpOpsIn (FW none) 0 P #[o] _ [0] a1 w1
 unfold wpOpsIn
 simp only [List.getElem?_toArray, List.getElem?_cons_zero, hw, if_true]
 refine ⟨fun _ _ => trivial, ?_⟩
 show o.uponIn (FW none) 0 P a1 _ _ ((o.semAt none a1.eval).run P w1)
 rw [hrun, Oper.uponIn_defer]
 show wpOpsIn (FW none) 0 P #[o] _ [] (({ a1 with defers := { target := .fn (.func gf) caps.toArray, args := cl.args.map (evT a1.tmps) } :: a1.defers } : Act).put o.dst Go.undef) w1
 rw [h2]
 show b.wpIn (FW none) 0 P _ ({ a1 with defers := { target := .fn (.func gf) caps.toArray, args := cl.args.map (evT a1.tmps) } :: a1.defers } : Act) w1
 refine wpIn_mono (ihE _ _ _ _ _ _ _ fn.ntmps hE2 hcob false (fun h => by cases h) none B0 w0 g1 _ w1 (fun l hl => by cases hl) hI1 (by show fn.ntmps ≤ a1.tmps.size; rw [hz1]; simp; omega) (by exact hg1.1)) fun x a3 w3 hx => ?_
 obtain ⟨hx3, g3, Ds3, hI3, hP3, hz3, hd3, hm3, hp3, _⟩ := hx
 have hdf : a3.defers = Ds3.map markD ++ ({ target := .fn (.func gf) caps.toArray, args := cl.args.map (evT a1.tmps) } :: (Ds1.map markD ++ [])) := by
  rw [hd3]; show _ ++ (_ :: a1.defers) = _; rw [hd1]
 have hPw3 : Post g w g3 w3 := hP1.trans hP3
 have leave : ∀ u, ModeR g3 pv u → LeavesInM (FW none) 0 P fn a3.tmps (fun e w' => ∃ V g', e = .returned V ∧ Inv GL B0 w0 g' [(0, v)] σ' #[V] w' ∧ Post g w g' w') a3.defers u w3 := by
  intro u hu
  rw [hdf]
  have hM : Marks g3 w.heap.size w3 (Ds3 ++ Ds1) := (hm1.keep hP3).app hm3 (fun D hD => (hm1.2 D hD).2.1) hP1.size
  have hB : B0 ≤ w.heap.size := hI.base
  refine leaves_marksK hu.run Ds3 (Es := Ds1) ⟨hM.1, fun D hD => ⟨Nat.zero_le _, (hM.2 D hD).2⟩⟩ hI3.base (fun D hD => Nat.le_trans hB (Nat.le_trans hP1.size (hm3.2 D hD).1)) hI3 (fun w4 hI4 hM4 hk4 => ?_)
  have hP4 : Post g w g3 w4 := hk4 g w hPw3 (fun D hD => Nat.le_trans hP1.size (hm3.2 D hD).1)
  have hAL3 : RelAL g3 gargs (cl.args.toList.map (evT a1.tmps) ++ caps) := RelAL.mono hP3.gle _ _ hAL
  obtain ⟨hcl, _⟩ := hAL3.get
  have hIt := hI4.slot (v := .undef) (V := Go.undef) (by unfold RelS RelA; trivial)
  obtain ⟨env5, hI5, j1, j2⟩ := Inv.caps gargs _ hAL3 hIt
  have hArr : (cl.args.toList.map (evT a1.tmps) ++ caps).toArray = cl.args.map (evT a1.tmps) ++ caps.toArray := by apply Array.ext'; simp
  rw [hArr] at hI5
  have hal : gargs.length = (cl.args.map (evT a1.tmps) ++ caps.toArray).size := by rw [hcl]; simp
  obtain ⟨⟨fnG, hfG, hbG, hnmG⟩, hcalls⟩ := guard_sim (g := g3.callee (a3.tmps.push Go.undef).size false) hT hF ihE hgd (hI5.split false hal j2 (fun h => by cases h)) hal (u := u) hu
  have hbG' : fnG.body ≠ none := fun e => by rw [e] at hbG; cases hbG
  have hnmG' : fnG.name ≠ "runtime.NumGoroutine" := by simpa using hnmG
  refine ⟨hu.run, .inr ⟨fun h => (by cases h), .func gf, caps.toArray, gf, cl.args.map (evT a1.tmps) ++ caps.toArray, rfl, ?_, fun _ _ => trivial, ?_⟩⟩
  ·simp [invoke, callFunc, hfG, hnmG', hbG']
  refine CallsDIn.mono hcalls fun e6 u6 w6 hx6 => ?_
  obtain ⟨V6, g6, rfl, hst, hI6, hP6⟩ := hx6
  show LeavesInM (FW none) 0 P fn a3.tmps _ (Ds1.map markD ++ []) (settle u6) w6
  rw [hst]
  obtain ⟨g7, hI7, hP7⟩ := hI5.join false (env0 := (a3.tmps.size, .undef) :: s3.env) (g0 := g3) (d := a3.tmps.size) (fun t ht => by
   rw [j1 t (by simp at ht ⊢; omega)]) (fun t ht => by
   simp only [Array.size_push] at ht
   simp only [get, beq_iff_eq]
   rw [if_neg (by omega : ¬ a3.tmps.size = t)]
   have := hI4.env t
   rwa [show a3.tmps.getD t Go.undef = Go.undef by rw [Array.getD_eq_getD_getElem?, Array.getElem?_eq_none (by omega)]; rfl] at this) hP6 hI6 (fun h => by cases h) (by simp)
  have hput : putT (a3.tmps.push Go.undef) (some a3.tmps.size) V6 = a3.tmps.push V6 := by
   simp only [putT]; apply Array.ext'; simp
  rw [hput] at hI7
  simp only [Bool.false_eq_true, if_false] at hI7
  have hI8 : Inv GL B0 w0 g7 s3.env σ1 a3.tmps w6 := hI7.dropTop (fun t ht => by
   simp only [get, beq_iff_eq]
   rw [if_neg (Ne.symm ht), if_neg (Ne.symm ht)]) (by
   have := hI4.env a3.tmps.size
   rw [show a3.tmps.getD a3.tmps.size Go.undef = Go.undef by simp] at this
   exact this.undef_any)
  have hM7 : Marks g7 0 w6 (Ds1 ++ []) := by rw [List.append_nil]; exact hM4.keep hP7
  have hP8 : Post g w g7 w6 := hP4.trans hP7
  refine leaves_marksK (by simp) Ds1 (Es := []) hM7 hI8.base (fun D hD => Nat.le_trans hB (hm1.2 D hD).1) hI8 (fun w7 hI9 _ hk7 => ?_)
  have hn : σ.length ≤ finN (H f) σ.length { s3 with σ := σ1 } ∧ finN (H f) σ.length { s3 with σ := σ1 } ≤ σ1.length ∧ Low (finN (H f) σ.length { s3 with σ := σ1 }) σ1 := by
   unfold finN
   split
   ·exact ⟨hg3.1, Nat.le_refl _, hI9.low⟩
   ·exact ⟨Nat.le_refl _, hg3.1, hg3.2 _ (Nat.le_refl _) (Nat.le_refl _) hI.low⟩
  obtain ⟨V, t0, hrun9, hR⟩ := results_rel (P := P) hT (s := { s3 with σ := σ1 }) hI9 hres
  obtain ⟨g9, hI10, hP10⟩ := hI9.ret hn.2.1 hn.2.2 (roV_rel hR) hret
  exact ⟨V, hrun9, V, g9, rfl, by have hσ : σ' = _ := hσ; rw [hσ]; exact hI10, hP10 g w (hk7 g w hP8 (fun D hD => (hm1.2 D hD).1)) (by rw [hI.len]; exact hn.1)⟩
 rcases hmode with ⟨he, rfl⟩ | ⟨vp, rfl, rfl⟩
 ·rcases he with rfl | rfl
  ·have : x = .normal := hx3
   subst this
   exact leave _ (.inl ⟨rfl, rfl⟩)
  ·have : x = .ret := hx3
   subst this
   exact leave _ (.inl ⟨rfl, rfl⟩)
 ·obtain ⟨Vp, rfl, hVp⟩ := hp3
  exact leave _ (.inr ⟨vp, Vp, rfl, rfl, hVp⟩)
theorem sim (hT : TabOk P ⟨ty, GL⟩) (hF : FnsOk P H) (hPr : PrimOk P GL H) : ∀ k,
 (∀ fi base blk c s e s' N, evC P ⟨ty, GL⟩ H k fi base blk c s = some (e, s') → codeOk H (H fi) N c = true → ∀ nr, (nr = true → noRF c = true) → ∀ ro B0 w0 g (a : Act) w, RoOk ro w → Inv GL B0 w0 g s.env s.σ a.tmps w → N ≤ a.tmps.size → base ≤ s.σ.length → c.wpIn (FW ro) 0 P (EvPost nr GL B0 w0 g w a e s') a w) ∧
 (∀ fi base blk c s e s' N, evC P ⟨ty, GL⟩ H k fi base blk (.loop c) s = some (e, s') → codeOk H (H fi) N c = true → ∀ nr, (nr = true → noRF c = true) → ∀ ro B0 w0 g (a : Act) w, RoOk ro w → Inv GL B0 w0 g s.env s.σ a.tmps w → N ≤ a.tmps.size → base ≤ s.σ.length → wpL (FW ro) P c (EvPost nr GL B0 w0 g w a e s') a w) ∧
 CallSim P GL (callK P ⟨ty, GL⟩ H k)
 | 0 => ⟨fun _ _ _ _ _ _ _ _ h => (by rw [evC] at h; cases h), fun _ _ _ _ _ _ _ _ h => (by rw [evC] at h; cases h), ⟨fun _ _ _ _ _ h => (by rw [callK] at h; cases h), fun _ _ _ _ _ h => (by rw [callK] at h; cases h), fun _ _ _ _ _ h => (by rw [callK] at h; cases h)⟩⟩
 | k + 1 => by
  obtain ⟨ihE, ihL, ihC⟩ := sim hT hF hPr k
  have hgr := (ev_grows (P := P) (T := ⟨ty, GL⟩) (H := H) k).1
  have loop : ∀ fi base blk c s e s' N, evC P ⟨ty, GL⟩ H (k + 1) fi base blk (.loop c) s = some (e, s') → codeOk H (H fi) N c = true → ∀ nr, (nr = true → noRF c = true) → ∀ ro B0 w0 g (a : Act) w, RoOk ro w → Inv GL B0 w0 g s.env s.σ a.tmps w → N ≤ a.tmps.size → base ≤ s.σ.length → wpL (FW ro) P c (EvPost nr GL B0 w0 g w a e s') a w := by
   intro fi base blk c s e s' N h hok nr hnr ro B0 w0 g a w hro hI hN hb
   rw [evC] at h
   unfold evF at h
   dsimp only at h
   have rounds : ∀ {base1 : Nat} {s0 : S} {K : S → Option (Ex × S)}, thenS K (evC P ⟨ty, GL⟩ H k fi base1 blk c s0) = some (e, s') → Inv GL B0 w0 g s0.env s0.σ a.tmps w → base1 ≤ s0.σ.length →
    (∀ s1 g1 (a1 : Act) w1, evC P ⟨ty, GL⟩ H k fi base1 blk c s0 = some (.normal, s1) → Inv GL B0 w0 g1 s1.env s1.σ a1.tmps w1 → Post g w g1 w1 → a1.tmps.size = a.tmps.size → ∀ Ds1, a1.defers = Ds1.map markD ++ a.defers → Marks g1 w.heap.size w1 Ds1 → (nr = true → Ds1 = []) → K s1 = some (e, s') → wpL (FW ro) P c (EvPost nr GL B0 w0 g w a e s') a1 w1) → wpL (FW ro) P c (EvPost nr GL B0 w0 g w a e s') a w := by
    intro base1 s0 K h hI0 hb0 hnext
    cases hE : evC P ⟨ty, GL⟩ H k fi base1 blk c s0 with
    | none => rw [hE] at h; cases h
    | some r =>
     obtain ⟨e1, s1⟩ := r
     rw [hE] at h
     refine wpL_round (wpIn_mono (ihE _ _ _ _ _ _ _ N hE hok nr hnr ro B0 w0 g a w hro hI0 hN hb0) fun x a1 w1 hx => ?_)
     obtain ⟨hx1, g1, Ds1, hI1, hP1, hz1, hd1, hm1, hp1, hq1⟩ := hx
     cases e1 with
     | normal =>
      have : x = .normal := hx1
      subst this
      exact hnext s1 g1 a1 w1 hE hI1 hP1 hz1 Ds1 hd1 hm1 hq1 h
     | exit id =>
      injection h with h; injection h with h1 h2; subst h1; subst h2
      have : x = .exit id := hx1
      subst this
      exact ⟨rfl, g1, Ds1, hI1, hP1, hz1, hd1, hm1, trivial, hq1⟩
     | ret =>
      injection h with h; injection h with h1 h2; subst h1; subst h2
      have : x = .ret := hx1
      subst this
      exact ⟨rfl, g1, Ds1, hI1, hP1, hz1, hd1, hm1, trivial, hq1⟩
     | pan v =>
      injection h with h; injection h with h1 h2; subst h1; subst h2
      obtain ⟨V, rfl⟩ := hx1
      exact ⟨⟨V, rfl⟩, g1, Ds1, hI1, hP1, hz1, hd1, hm1, hp1, hq1⟩
   have wpL_mono : ∀ {Q Q' : Exit → Act → World → Prop} {a : Act} {w : World}, wpL (FW ro) P c Q a w → (∀ x a w, Q x a w → Q' x a w) → wpL (FW ro) P c Q' a w := by
    intro Q Q' a w h hq b k cs hro hb hr
    obtain ⟨e, a', w', q, r⟩ := h b k cs hro hb hr
    exact ⟨e, a', w', hq _ _ _ q, r⟩
   split at h
   ·rename_i live hl
    have hEx : ∀ s1, evC P ⟨ty, GL⟩ H k fi s.σ.length blk c (s.mask (some live)) = some (e, s1) → ∀ (a1 : Act) g1 w1 Ds1 x o, exq e x → Inv GL B0 w0 g1 s1.env s1.σ a1.tmps w1 → Post g w g1 w1 → a1.tmps.size = a.tmps.size → a1.defers = Ds1.map markD ++ a.defers → Marks g1 w.heap.size w1 Ds1 → panR g1 e x → (nr = true → Ds1 = []) → ltEnv s.σ.length (maskEnv s1.env o) = true → s' = { s1 with env := maskEnv s1.env o, σ := s1.σ.take s.σ.length } → EvPost nr GL B0 w0 g w a e s' x a1 w1 := by
     intro s1 hE a1 g1 w1 Ds1 x o hx1 hI1 hP1 hz1 hd1 hm1 hp1 hq1 hlt hs'
     subst hs'
     have hg1 : Grows s.σ.length s.σ s1.σ := hgr _ s.σ.length _ _ (s.mask (some live)) _ _ (by exact Nat.le_refl _) hE
     have hL : Low s.σ.length s1.σ := hg1.2 _ (Nat.le_refl _) (Nat.le_refl _) hI.low
     exact ⟨hx1, _, Ds1, (hI1.mask o).trunc hg1.1 hlt hL, hP1.trunc (n := s.σ.length) (by rw [hI.len]; exact Nat.le_refl _), hz1, hd1, hm1, hp1, hq1⟩
    have hcut : ∀ {r : Option (Ex × S)}, thenS (fun s' => (roundEnd s.σ.length live s').bind (evC P ⟨ty, GL⟩ H k fi base blk (.loop c))) (cutX blk (lookupL (H fi).outs blk) s.σ.length r) = some (e, s') →
     (∃ s1, r = some (.normal, s1) ∧ (roundEnd s.σ.length live s1).bind (evC P ⟨ty, GL⟩ H k fi base blk (.loop c)) = some (e, s')) ∨ (e ≠ .normal ∧ ∃ s1, r = some (e, s1) ∧ (s' = s1 ∨ ∃ i o, e = .exit i ∧ ltEnv s.σ.length (maskEnv s1.env o) = true ∧ s' = { s1 with env := maskEnv s1.env o, σ := s1.σ.take s.σ.length })) := by
     intro r h
     cases hr : cutX blk (lookupL (H fi).outs blk) s.σ.length r with
     | none => rw [hr] at h; cases h
     | some y =>
      obtain ⟨e1, s1⟩ := y
      rw [hr] at h
      obtain ⟨s0, h0, h1⟩ := cutX_some hr
      cases e1 with
      | normal =>
       rcases h1 with rfl | ⟨i, o, he, _⟩
       ·exact .inl ⟨s1, h0, h⟩
       ·cases he
      | _ =>
       injection h with h; injection h with k1 k2; subst k1; subst k2
       exact .inr ⟨by simp, s0, h0, h1⟩
    rcases hcut h with ⟨s1, hE, h2⟩ | ⟨hnn, s1, hE, h2⟩
    ·refine rounds (K := fun _ => some (e, s')) (s0 := s.mask (some live)) (base1 := s.σ.length) (by rw [hE]; rfl) (hI.mask live) (Nat.le_refl _) (fun s1' g1 a1 w1 hE' hI1 hP1 hz1 Ds1 hd1 hm1 hq1 _ => ?_)
     rw [hE] at hE'; injection hE' with hE'; injection hE' with _ hE'; subst hE'
     obtain ⟨s2, hs2, h3⟩ := Option.bind_eq_some_iff.1 h2
     obtain ⟨hlt, rfl⟩ := roundEnd_some hs2
     have hg1 : Grows s.σ.length s.σ s1.σ := hgr _ s.σ.length _ _ (s.mask (some live)) _ _ (by exact Nat.le_refl _) hE
     have hL : Low s.σ.length s1.σ := hg1.2 _ (Nat.le_refl _) (Nat.le_refl _) hI.low
     have hI2 := (hI1.mask live).trunc hg1.1 hlt hL
     have hP2 := hP1.trunc (n := s.σ.length) (by rw [hI.len]; exact Nat.le_refl _)
     refine wpL_mono (ihL _ _ _ _ _ _ _ N h3 hok nr hnr ro B0 w0 _ a1 w1 (hro.keep hP1) hI2 (by rw [hz1]; exact hN) ?_) (fun x a' w' hx => hx.of hP2 hz1 hd1 hm1 hq1)
     show base ≤ (s1.σ.take s.σ.length).length
     have := hg1.1
     rw [List.length_take]
     have : s.σ.length ≤ s1.σ.length := hg1.1
     omega
    ·rcases h2 with rfl | ⟨i, o, rfl, hlt, hs'⟩
     ·refine wpL_round (wpIn_mono (ihE _ _ _ _ _ _ _ N hE hok nr hnr ro B0 w0 g a w hro (hI.mask live) hN (Nat.le_refl _)) fun x a1 w1 hx => ?_)
      obtain ⟨hx1, g1, Ds1, hI1, hP1, hz1, hd1, hm1, hp1, hq1⟩ := hx
      cases e with
      | normal => exact absurd rfl hnn
      | exit id =>
       have : x = .exit id := hx1
       subst this
       exact ⟨rfl, g1, Ds1, hI1, hP1, hz1, hd1, hm1, trivial, hq1⟩
      | ret =>
       have : x = .ret := hx1
       subst this
       exact ⟨rfl, g1, Ds1, hI1, hP1, hz1, hd1, hm1, trivial, hq1⟩
      | pan v =>
       obtain ⟨V, rfl⟩ := hx1
       exact ⟨⟨V, rfl⟩, g1, Ds1, hI1, hP1, hz1, hd1, hm1, hp1, hq1⟩
     ·refine wpL_round (wpIn_mono (ihE _ _ _ _ _ _ _ N hE hok nr hnr ro B0 w0 g a w hro (hI.mask live) hN (Nat.le_refl _)) fun x a1 w1 hx => ?_)
      obtain ⟨hx1, g1, Ds1, hI1, hP1, hz1, hd1, hm1, hp1, hq1⟩ := hx
      have : x = .exit i := hx1
      subst this
      exact hEx s1 hE a1 g1 w1 Ds1 _ o rfl hI1 hP1 hz1 hd1 hm1 trivial hq1 hlt hs'
   ·refine rounds h hI hb (fun s1 g1 a1 w1 hE hI1 hP1 hz1 Ds1 hd1 hm1 hq1 h2 => ?_)
    have hg1 := hgr _ _ _ _ _ _ _ hb hE
    exact wpL_mono (ihL _ _ _ _ _ _ _ N h2 hok nr hnr ro B0 w0 g1 a1 w1 (hro.keep hP1) hI1 (by rw [hz1]; exact hN) (Nat.le_trans hb hg1.1)) (fun x a' w' hx => hx.of hP1 hz1 hd1 hm1 hq1)
  refine ⟨?_, loop, ?_⟩
  ·intro fi base blk c s e s' N h hok nr hnr ro B0 w0 g a w hro hI hN hb
   cases c with
   | loop c => exact wp_of_wpL (loop fi base blk c s e s' N h (by simpa [codeOk] using hok) nr hnr ro B0 w0 g a w hro hI hN hb)
   | skip =>
    rw [evC] at h
    injection h with h; injection h with h1 h2; subst h1; subst h2
    exact wpIn_skip (EvPost.mk rfl hI (Post.refl g w) rfl rfl trivial)
   | exit id =>
    rw [evC] at h
    injection h with h; injection h with h1 h2; subst h1; subst h2
    exact wpIn_exit (EvPost.mk rfl hI (Post.refl g w) rfl rfl trivial)
   | ret =>
    rw [evC] at h
    injection h with h; injection h with h1 h2; subst h1; subst h2
    exact wpIn_ret (EvPost.mk rfl hI (Post.refl g w) rfl rfl trivial)
   | region id ops d =>
    rw [evC] at h
    unfold evF at h
    dsimp only at h
    unfold codeOk at hok
    simp only [Bool.and_eq_true] at hok
    obtain ⟨hops, hdr⟩ := hok
    cases hst : stepOps ⟨⟨ty, GL⟩, H, callK P ⟨ty, GL⟩ H k, H fi, base⟩ ops.toList ops.toList s with
    | none => rw [hst] at h; cases h
    | some r =>
     rw [hst] at h
     have hfr : ∀ id args v σ σ', callK P ⟨ty, GL⟩ H k (.yld id) args σ ≠ some (.pan v, σ') := fun id args v σ σ' => callK_yld_pan
     cases d with
     | false =>
      have h12 : e = exR r ∧ s' = r.st := by
       cases r with
       | ok s1 => injection h with h; injection h with h1 h2; exact ⟨h1.symm, h2.symm⟩
       | pan v s1 => injection h with h; injection h with h1 h2; exact ⟨h1.symm, h2.symm⟩
      obtain ⟨rfl, rfl⟩ := h12
      refine wpIn_region ?_
      have := ops_wp (ro := ro) hT ihC (fun f args v σ' hp hc => callK_lt (k := k) f args v σ' hp hc) hfr ops (nr := nr) (a0 := a) (g0 := g) (w00 := w) ops.toList 0 s a g w (by simp) (fun o ho => List.all_eq_true.1 hops o ho) hN hI (Post.refl g w) rfl rfl hst
      rw [Array.length_toList, ← List.range_eq_range'] at this
      exact this
     | true =>
      have hsch : ∀ t, Region.schedule (P.follows .mixedOrders) ops t = Region.linearise .any ops t := fun t => by
       simp only [Region.schedule, hF.1, Bool.true_or, if_true]
      have hopl : ∀ (i : Nat) o, ops[i]? = some o → opOk N o = true := fun i o hi => List.all_eq_true.1 hops o (by
       obtain ⟨h1, h2⟩ := Array.getElem?_eq_some_iff.1 hi
       rw [← h2]; exact Array.getElem_mem_toList h1)
      simp only [Bool.not_true, Bool.false_or, Bool.and_eq_true] at hdr
      obtain ⟨hdr, hpk⟩ := hdr
      cases r with
      | pan v s1 =>
       have h : exPan v s1 (drOf (H fi) base id true) = some (e, s') := h
       unfold drOf at h
       rw [if_pos rfl] at h
       cases hlk : lookupN (H fi).dp id with
       | none => rw [hlk] at h; cases h
       | some kk =>
        rw [hlk] at h hpk
        injection h with h; injection h with h1 h2; subst h1; subst h2
        refine wpIn_region_draw fun t => ?_
        rw [hsch]
        obtain ⟨l, s2, hl, hlo, hgd, hrun, he, cs, hcs⟩ := schedP_all (c := ⟨⟨ty, GL⟩, H, callK P ⟨ty, GL⟩ H k, H fi, base⟩) hdr hpk hst t
        rw [hl]
        exact ops_wpP hT ihC (fun f args v σ' hp hc => callK_lt (k := k) f args v σ' hp hc) hfr ops hopl (a0 := a) (g0 := g) (w00 := w.drew) (fun V g' a' w' hv hI' hP' hz hd => by
         have hI2 := hI'.lose hcs
         have he : s2.σ.set (frId base kk) .hid = s1.σ.set (frId base kk) .hid := he
         rw [he] at hI2
         exact ⟨⟨V, rfl⟩, g', [], hI2, (Post.drew g w).trans hP', hz, hd, Marks.nil _ _ _, ⟨V, rfl, hv⟩, fun _ => rfl⟩) l _ s a g w.drew hlo hgd hN hI.drew (Post.refl g w.drew) rfl rfl hrun
      | ok s1 =>
       injection h with h; injection h with h1 h2; subst h1; subst h2
       refine wpIn_region_draw fun t => ?_
       rw [hsch]
       obtain ⟨l, s2, hl, hlo, hrun, he⟩ := sched_all (c := ⟨⟨ty, GL⟩, H, callK P ⟨ty, GL⟩ H k, H fi, base⟩) hdr hst t
       rw [hl]
       exact ops_wpG hT ihC (fun f args v σ' hp hc => callK_lt (k := k) f args v σ' hp hc) ops hopl (a0 := a) (g0 := g) (w00 := w.drew) (fun g' a' w' hI' hP' hz hd => EvPost.mk (e := .normal) rfl (hI'.eqv he) ((Post.drew g w).trans hP') hz hd trivial) l _ s a g w.drew hlo hN hI.drew (Post.refl g w.drew) rfl rfl hrun
   | seq c1 c2 =>
    rw [evC] at h
    unfold evF at h
    dsimp only at h
    unfold codeOk at hok
    simp only [Bool.and_eq_true] at hok
    cases hE : evC P ⟨ty, GL⟩ H k fi base blk c1 s with
    | none => rw [hE] at h; cases h
    | some r =>
     obtain ⟨e1, s1⟩ := r
     rw [hE] at h
     refine wpIn_seq (wpIn_mono (ihE _ _ _ _ _ _ _ N hE hok.1 nr (hnr1 hnr) ro B0 w0 g a w hro hI hN hb) fun x a1 w1 hx => ?_)
     obtain ⟨hx1, g1, Ds1, hI1, hP1, hz1, hd1, hm1, hp1, hq1⟩ := hx
     cases e1 with
     | normal =>
      have : x = .normal := hx1
      subst this
      have hg1 := hgr _ _ _ _ _ _ _ hb hE
      exact wpIn_mono (ihE _ _ _ _ _ _ _ N h hok.2 nr (hnr2 hnr) ro B0 w0 g1 a1 w1 (hro.keep hP1) hI1 (by rw [hz1]; exact hN) (Nat.le_trans hb hg1.1)) (fun x a' w' hx => hx.of hP1 hz1 hd1 hm1 hq1)
     | exit id =>
      injection h with h; injection h with h1 h2; subst h1; subst h2
      have : x = .exit id := hx1
      subst this
      exact ⟨rfl, g1, Ds1, hI1, hP1, hz1, hd1, hm1, trivial, hq1⟩
     | ret =>
      injection h with h; injection h with h1 h2; subst h1; subst h2
      have : x = .ret := hx1
      subst this
      exact ⟨rfl, g1, Ds1, hI1, hP1, hz1, hd1, hm1, trivial, hq1⟩
     | pan v =>
      injection h with h; injection h with h1 h2; subst h1; subst h2
      obtain ⟨V, rfl⟩ := hx1
      exact ⟨⟨V, rfl⟩, g1, Ds1, hI1, hP1, hz1, hd1, hm1, hp1, hq1⟩
   | cond x c1 c2 =>
    rw [evC] at h
    unfold evF at h
    dsimp only at h
    unfold codeOk at hok
    simp only [Bool.and_eq_true] at hok
    split at h
    ·rename_i t hx
     have hev : a.eval x = .bool t := by
      rw [eval_evT]
      exact Inv.lit (s := s) hI hx
     refine wpIn_cond hev ?_
     cases t with
     | true => exact ihE _ _ _ _ _ _ _ N h hok.1 nr (hnr1 hnr) ro B0 w0 g a w hro hI hN hb
     | false => exact ihE _ _ _ _ _ _ _ N h hok.2 nr (hnr2 hnr) ro B0 w0 g a w hro hI hN hb
    ·cases h
   | block id c =>
    rw [evC] at h
    unfold evF at h
    dsimp only at h
    unfold codeOk at hok
    cases hE : evC P ⟨ty, GL⟩ H k fi base id c s with
    | none => rw [hE] at h; cases h
    | some r =>
     obtain ⟨e1, s1⟩ := r
     rw [hE] at h
     have hmask : ∀ {g1 : G} {a1 : Act} {w1 : World} (l : Option (List Nat)), Inv GL B0 w0 g1 s1.env s1.σ a1.tmps w1 → Inv GL B0 w0 g1 (s1.mask l).env (s1.mask l).σ a1.tmps w1 := by
      intro g1 a1 w1 l hI1
      cases l with
      | none => exact hI1
      | some l => exact hI1.mask l
     refine wpIn_block (wpIn_mono (ihE _ _ _ _ _ _ _ N hE hok nr hnr ro B0 w0 g a w hro hI hN hb) fun x a1 w1 hx => ?_)
     obtain ⟨hx1, g1, Ds1, hI1, hP1, hz1, hd1, hm1, hp1, hq1⟩ := hx
     cases e1 with
     | normal =>
      injection h with h; injection h with h1 h2; subst h1; subst h2
      have : x = .normal := hx1
      subst this
      exact ⟨rfl, g1, Ds1, hmask _ hI1, hP1, hz1, hd1, hm1, trivial, hq1⟩
     | exit i =>
      have : x = .exit i := hx1
      subst this
      unfold blockEx at h
      dsimp only at h
      simp only [Exit.inBlock]
      split at h
      ·rename_i hi
       injection h with h; injection h with h1 h2; subst h1; subst h2
       rw [if_pos hi]
       exact ⟨rfl, g1, Ds1, hmask _ hI1, hP1, hz1, hd1, hm1, trivial, hq1⟩
      ·rename_i hi
       injection h with h; injection h with h1 h2; subst h1; subst h2
       rw [if_neg hi]
       exact ⟨rfl, g1, Ds1, hI1, hP1, hz1, hd1, hm1, trivial, hq1⟩
     | ret =>
      injection h with h; injection h with h1 h2; subst h1; subst h2
      have : x = .ret := hx1
      subst this
      exact ⟨rfl, g1, Ds1, hI1, hP1, hz1, hd1, hm1, trivial, hq1⟩
     | pan v =>
      injection h with h; injection h with h1 h2; subst h1; subst h2
      obtain ⟨V, rfl⟩ := hx1
      exact ⟨⟨V, rfl⟩, g1, Ds1, hI1, hP1, hz1, hd1, hm1, hp1, hq1⟩
   | scope c =>
    rw [evC] at h
    unfold evF at h
    dsimp only at h
    unfold codeOk at hok
    refine wp_scope (fun l a w hq => ?_) (ihE _ _ _ _ _ _ _ N h hok nr hnr ro B0 w0 g a w hro hI hN hb)
    have := hq.1
    cases e <;> simp [exq] at this
   | label l =>
    rw [evC] at h
    injection h with h; injection h with h1 h2; subst h1; subst h2
    exact wpIn_label (EvPost.mk rfl hI (Post.refl g w) rfl rfl trivial)
   | rangeFunc f ps ac bc =>
    rw [evC] at h
    unfold evF at h
    dsimp only at h
    unfold codeOk at hok
    simp only [Bool.and_eq_true, decide_eq_true_eq] at hok
    obtain ⟨⟨hnt, _⟩, _⟩ := hok
    split at h
    ·cases h
    rename_i hyl
    obtain ⟨fid, cap, hfv, v, σ1, st, pend, nt2, f2, env2, ps2, ac2, bc2, hcall, hσ1, hst, hes⟩ : ∃ fid cap, (rd ⟨ty, GL⟩ s.env f = .fn fid cap ∨ (rd ⟨ty, GL⟩ s.env f = .p (.fn fid) ∧ cap = [])) ∧ ∃ v σ1 st pend nt2 f2 env2 ps2 ac2 bc2,
     callK P ⟨ty, GL⟩ H k (.fn fid) ([.yld s.σ.length] ++ cap) (s.σ ++ [AObj.loop 0 none (H fi).nt fi (copyEnv s.env) ps.toList ac bc]) = some (.ret v, σ1) ∧ σ1[s.σ.length]? = some (.loop st pend nt2 f2 env2 ps2 ac2 bc2) ∧ st ≠ 1 ∧
     ((pend = none ∧ e = .normal) ∨ (∃ i, pend = some (.exit i) ∧ e = .exit i) ∨ (pend = some .ret ∧ e = .ret)) ∧ s' = { s with σ := σ1.take s.σ.length } := by
     have fin : ∀ {σ1 : List AObj} {o1 : Out}, rangeEnd s.σ.length (some (endCall { s with σ := s.σ ++ [AObj.loop 0 none (H fi).nt fi (copyEnv s.env) ps.toList ac bc] } none σ1 o1)) = some (e, s') → ∃ v st pend nt2 f2 env2 ps2 ac2 bc2, o1 = .ret v ∧ σ1[s.σ.length]? = some (.loop st pend nt2 f2 env2 ps2 ac2 bc2) ∧ st ≠ 1 ∧
      ((pend = none ∧ e = .normal) ∨ (∃ i, pend = some (.exit i) ∧ e = .exit i) ∨ (pend = some .ret ∧ e = .ret)) ∧ s' = { s with σ := σ1.take s.σ.length } := by
      intro σ1 o1 h
      cases o1 with
      | pan v => simp only [endCall, rangeEnd] at h; cases h
      | ret v =>
       simp only [endCall, rangeEnd, S.put, putE] at h
       split at h
       ·rename_i st pend nt2 f2 env2 ps2 ac2 bc2 h0
        split at h
        ·cases h
        ·rename_i hst
         split at h
         ·injection h with h; injection h with h1 h2
          exact ⟨v, st, _, nt2, f2, env2, ps2, ac2, bc2, rfl, h0, hst, .inl ⟨rfl, h1.symm⟩, h2.symm⟩
         ·rename_i i
          injection h with h; injection h with h1 h2
          exact ⟨v, st, _, nt2, f2, env2, ps2, ac2, bc2, rfl, h0, hst, .inr (.inl ⟨i, rfl, h1.symm⟩), h2.symm⟩
         ·injection h with h; injection h with h1 h2
          exact ⟨v, st, _, nt2, f2, env2, ps2, ac2, bc2, rfl, h0, hst, .inr (.inr ⟨rfl, h1.symm⟩), h2.symm⟩
         ·cases h
       ·cases h
     unfold callV at h
     split at h
     ·rename_i fid hv
      split at h
      ·simp only [pureArgs, pureArg, Bool.false_and, Bool.false_eq_true, if_false] at h
       cases h
      split at h
      ·exfalso
       revert h
       generalize hq : rmRun _ _ _ _ _ _ = r
       intro h
       cases r with
       | none => cases h
       | some r =>
        obtain ⟨_, _, _, h1⟩ := rmRun_ok hq
        rcases h1 with ⟨_, _, _, h1, _⟩ | ⟨_, _, _, h1, _⟩
        ·simp [rmId] at h1
        ·simp [rmArgs, rmArg] at h1
      ·split at h
       ·rename_i o1 σ1 hc
        split at h
        case isFalse => cases h
        obtain ⟨v, st, pend, nt2, f2, env2, ps2, ac2, bc2, rfl, q⟩ := fin h
        exact ⟨fid, [], .inr ⟨hv, rfl⟩, v, σ1, st, pend, nt2, f2, env2, ps2, ac2, bc2, by simpa using hc, q⟩
       ·cases h
     ·rename_i fid cap hv
      split at h
      ·rename_i o1 σ1 hc
       obtain ⟨v, st, pend, nt2, f2, env2, ps2, ac2, bc2, rfl, q⟩ := fin h
       exact ⟨fid, cap, .inl hv, v, σ1, st, pend, nt2, f2, env2, ps2, ac2, bc2, hc, q⟩
      ·cases h
     ·rename_i id hv
      rw [hv] at hyl
      exact absurd rfl hyl
     ·cases h
    obtain ⟨hes, rfl⟩ := hes
    obtain ⟨caps, hfe, hcap⟩ : ∃ caps : List Value, a.eval f = .func (.func fid) #[] caps.toArray ∧ RelAL g cap caps := by
     have hfr := hI.rd (ty := ty) f
     rw [eval_evT]
     rcases hfv with hv | ⟨hv, rfl⟩
     ·rw [hv] at hfr
      have hp := hfr.any (fun _ => by simp)
      unfold RelA at hp
      exact hp
     ·rw [hv] at hfr
      have hp := hfr.pure
      unfold RelP at hp
      exact ⟨[], hp, by unfold RelAL; rfl⟩
    refine wpIn_rangeFunc fun fn _ => ?_
    obtain ⟨Ds, w1, hIJ, hPJ, ⟨dfr, hen⟩, hmk⟩ : ∃ (Ds : List Nat) (w1 : World), Inv GL B0 w0 g s.env s.σ a.tmps w1 ∧ Post g w g w1 ∧
     (∃ dfr, (Instr.enterLoop fn a.tmps ps ac bc (FW ro).round).run P w = .ok (w1.heap.size, Ds.map markD) (w1.alloc (.loop { state := .ready, pending := none, fn, tmps := a.tmps, params := ps, assign := ac, body := bc, defers := dfr }))) ∧ Marks g w.heap.size w1 Ds := by
     cases hr : ro with
     | none =>
      obtain ⟨hj, hp⟩ := hI.alloc_junk (.deferred (some []))
      refine ⟨[w.heap.size], _, hj, hp, ⟨w.heap.size, ?_⟩, ⟨by simp, fun D hD => ?_⟩⟩
      ·have := run_enterLoop_outer (P := P) (w := w) fn a.tmps ps ac bc
       rw [World.size_alloc]
       exact this
      ·simp at hD; subst hD
       exact ⟨Nat.le_refl _, by simp, hI.tag_lt (Nat.le_refl _), World.alloc_heap_new w _⟩
     | some l =>
      obtain ⟨r, hlr⟩ := hro l hr
      exact ⟨[], w, hI, Post.refl g w, ⟨r.defers, run_enterLoop_inner hlr fn a.tmps ps ac bc⟩, Marks.nil _ _ _⟩
    obtain ⟨g2, hI2, hP2, ⟨el, hel, hea, heb⟩, htg⟩ := hIJ.alloc_loop (rec := { state := .ready, pending := none, fn, tmps := a.tmps, params := ps, assign := ac, body := bc, defers := dfr }) (nt := (H fi).nt) fi rfl rfl rfl (Nat.le_trans hnt hN)
    generalize hW : w1.alloc (.loop { state := .ready, pending := none, fn, tmps := a.tmps, params := ps, assign := ac, body := bc, defers := dfr }) = W1 at *
    rw [← heb] at hen
    have hIt1 := hI2.slot (v := .undef) (V := Go.undef) (by unfold RelS RelA; trivial)
    have hIt2 := hIt1.slot (v := .yld s.σ.length) (V := .func (.yield el.blk) #[] #[]) (RelS.of_A (by unfold RelA; exact ⟨el, hel, hea, rfl⟩))
    obtain ⟨env3, hI3, j1, j2⟩ := Inv.caps cap caps (RelAL.mono (hPJ.trans hP2).gle _ _ hcap) hIt2
    have hArr : (a.tmps.push Go.undef).push (.func (.yield el.blk) #[] #[]) ++ caps.toArray = a.tmps.push Go.undef ++ (#[Value.func (.yield el.blk) #[] #[]] ++ caps.toArray) := by apply Array.ext'; simp
    rw [hArr] at hI3
    obtain ⟨hcl, _⟩ := hcap.get
    have hal : ([AV.yld s.σ.length] ++ cap).length = (#[Value.func (.yield el.blk) #[] #[]] ++ caps.toArray).size := by simp [hcl]
    have hags : ∀ i, i < ([AV.yld s.σ.length] ++ cap).length → get env3 ((a.tmps.push Go.undef).size + i) = (([AV.yld s.σ.length] ++ cap)[i]?).getD .undef := by
     intro i hi
     cases i with
     | zero =>
      rw [Nat.add_zero, j1 _ (by simp)]
      simp [get]
     | succ i =>
      have := j2 i (by simpa using hi)
      simp only [Array.size_push] at this ⊢
      rw [show a.tmps.size + 1 + (i + 1) = a.tmps.size + 1 + 1 + i by omega, this]
      simp
    obtain ⟨⟨fnF, hfF, hbF, hnmF⟩, hcalls⟩ := ihC.fn _ _ _ _ _ hcall B0 w0 _ _ W1 (hI3.split false hal hags (fun h => by cases h)) hal
    have hbF' : fnF.body ≠ none := fun e => by rw [e] at hbF; cases hbF
    have hnmF' : fnF.name ≠ "runtime.NumGoroutine" := by simpa using hnmF
    refine ⟨el.blk, Ds.map markD, W1, { target := .fn (.func fid) caps.toArray, args := #[.func (.yield el.blk) #[] #[]] }, W1, fid, #[.func (.yield el.blk) #[] #[]] ++ caps.toArray, W1, hen, ?_, fun _ _ => trivial, ?_, fun h => (by cases h), ?_⟩
    ·have hce : a.eval (.const (.func (.yield el.blk) #[] #[])) = .func (.yield el.blk) #[] #[] := rfl
     simp [resolve, hfe, Deferred.ofValue, hce]
    ·simp [invoke, callFunc, hfF, hnmF', hbF']
    refine CallsIn.mono (callsIn_FW.2 hcalls) fun x w3 hx => ?_
    obtain ⟨V, g3, rfl, hIr, hP3⟩ := hx
    obtain ⟨g4, hI4, hP4⟩ := hI3.join false (env0 := (a.tmps.size, .undef) :: s.env) (g0 := g) (d := a.tmps.size) (fun t ht => by
     rw [j1 t (by simp at ht ⊢; omega)]
     simp only [get, beq_iff_eq, Array.size_push] at ht ⊢
     rw [if_neg (by omega : ¬ a.tmps.size + 1 = t)]) (fun t ht => by
     simp only [Array.size_push] at ht
     simp only [get, beq_iff_eq]
     rw [if_neg (by omega : ¬ a.tmps.size = t)]
     have := hI.env t
     rwa [show a.tmps.getD t Go.undef = Go.undef by rw [Array.getD_eq_getD_getElem?, Array.getElem?_eq_none (by omega)]; rfl] at this) hP3 hIr (fun h => by cases h) (by simp)
    have hput : putT (a.tmps.push Go.undef) (some a.tmps.size) V = a.tmps.push V := by
     simp only [putT]; apply Array.ext'; simp
    rw [hput] at hI4
    simp only [Bool.false_eq_true, if_false] at hI4
    have hI5 : Inv GL B0 w0 g4 s.env σ1 a.tmps w3 := hI4.dropTop (fun t ht => by
     simp only [get, beq_iff_eq]
     rw [if_neg (Ne.symm ht), if_neg (Ne.symm ht)]) (by
     have := hI.env a.tmps.size
     rw [show a.tmps.getD a.tmps.size Go.undef = Go.undef by simp] at this
     exact this.undef_any)
    obtain ⟨el3, hel3, hea3, hta3, _, rec3, hrec3, q1, q2, _⟩ := hI5.objs _ _ hσ1
    have hsame : el3 = el := by
     obtain ⟨e3, h3, _, _, _, h5⟩ := hP4.gle.μ _ el hel
     rw [hel3] at h3
     injection h3 with h3
     rw [h3, h5 hea]
    subst hsame
    have hst3 : rec3.state ≠ .busy := by
     rw [q1]
     match st, hst with
     | 0, _ => simp [stOf]
     | n + 2, _ => simp [stOf]
    have hgrc : Grows _ (s.σ ++ [AObj.loop 0 none (H fi).nt fi (copyEnv s.env) ps.toList ac bc]) σ1 := (ev_grows (P := P) (T := ⟨ty, GL⟩) (H := H) k).2 _ _ _ _ _ hcall
    have hlen1 : s.σ.length ≤ σ1.length := by have := hgrc.1; simp at this; omega
    have hlow1 : Low s.σ.length σ1 := hgrc.2 _ (by simp) (by simp) ((Grows.new s.σ.length s.σ _).2 _ (Nat.le_refl _) (Nat.le_refl _) hI.low)
    have hI6 := hI5.trunc' hlen1 (fun t => by have := (hI.env t).lt; rwa [hI.len] at this) hlow1
    have hI7 := hI6.touch (o' := .loop { rec3 with state := .exhausted }) (hI5.tlt _ _ hta3).1 hrec3 (fun _ _ _ e => by cases e) (fun pl h => by
     have h' : g4.tag el3.blk = some pl := h
     rw [hta3] at h'
     injection h' with h'
     exact ⟨_, h'.symm, by rw [List.length_take]; omega⟩)
    have hPf : Post g w (g4.trunc s.σ.length) (w3.putObj el3.blk (.loop { rec3 with state := .exhausted })) :=
     Post.touch ((((hPJ.trans hP2).trans hP4)).trunc (by rw [hI.len]; exact Nat.le_refl _)) hrec3 (.inl (by rw [heb]; exact hPJ.size)) (fun _ => ⟨_, rfl⟩)
    have hmf : Marks (g4.trunc s.σ.length) w.heap.size (w3.putObj el3.blk (.loop { rec3 with state := .exhausted })) Ds := by
     have h4 : Marks g4 w.heap.size w3 Ds := (hmk.keep hP2).keep hP4
     exact Marks.touch (g := g4) h4 (fun D hD => by
      have := (hmk.2 D hD).2.1
      rw [heb]; omega)
    have hfin : ∀ x, exq e x → EvPost nr GL B0 w0 g w a e { s with σ := σ1.take s.σ.length } x { a with defers := Ds.map markD ++ a.defers } (w3.putObj el3.blk (.loop { rec3 with state := .exhausted })) := fun x hx =>
     ⟨hx, _, Ds, hI7, hPf, rfl, rfl, hmf, by rcases hes with ⟨_, rfl⟩ | ⟨i, _, rfl⟩ | ⟨_, rfl⟩ <;> trivial, fun h => by cases hnr h⟩
    refine ⟨pend, _, by rw [← q2]; exact run_endLoop hrec3 hst3, ?_⟩
    rcases hes with ⟨rfl, rfl⟩ | ⟨i, rfl, rfl⟩ | ⟨rfl, rfl⟩
    ·exact hfin .normal rfl
    ·exact wpIn_exit (hfin (.exit i) rfl)
    ·exact wpIn_ret (hfin .ret rfl)
   | _ =>
    rw [evC] at h
    cases h
  ·refine ⟨fun f args σ v σ' h B0 w0 g Args w hI hl => ?_, fun id args σ v σ' h B0 w0 g Args w hI hl => ?_, fun f args σ v σ' h B0 w0 g Args w hI hl => ?_⟩
   ·cases hpr : (H f).pr with
    | some p =>
     obtain ⟨h1, h2, rfl⟩ := callK_prim hpr h
     exact hPr f p hpr args v h1 h2 _ B0 w0 g Args w hI hl
    | none =>
    cases hdf : (H f).df with
    | true =>
     obtain ⟨k', fn, c, r, hk, hf, hc, hok, hb⟩ := callK_D hpr hdf h
     obtain ⟨_, hnm⟩ := hF.2 f fn c hf hc hok
     have hk' : k = k' + 1 := by omega
     subst hk'
     obtain ⟨ihE', _, _⟩ := sim hT hF hPr k'
     exact ⟨⟨fn, hf, by rw [hc]; rfl, hnm⟩, defer_sim hT hF ihE' hf hc hok hb hI hl⟩
    | false =>
    obtain ⟨k', fn, c, e, s, hk, hf, hc, hok, hev, he, hfin⟩ := callK_ret hpr hdf h
    obtain ⟨hco, hnm⟩ := hF.2 f fn c hf hc hok
    refine ⟨⟨fn, hf, by rw [hc]; rfl, hnm⟩, ?_⟩
    have hk' : k = k' + 1 := by omega
    subst hk'
    obtain ⟨ihE', _, _⟩ := sim hT hF hPr k'
    have hgr' := (ev_grows (P := P) (T := ⟨ty, GL⟩) (H := H) k').1
    have hI0 : Inv GL B0 w0 g (envOf 0 args) σ (Args ++ Array.replicate (fn.ntmps - Args.size) Go.undef) w := by
     refine ⟨hI.below, hI.base, hI.fz, hI.tlt, hI.own, fun t => ?_, hI.objs, hI.len, hI.glob, hI.mlt⟩
     by_cases ht : t < Args.size
     ·rw [append_get_lt ht]; exact hI.env t
     ·rw [get_envOf, if_pos (Nat.zero_le _), List.getElem?_eq_none (by omega)]
      simp only [Option.getD_none]
      unfold RelS RelA; trivial
    refine (callsIn_FW (ro := none) (n := 0)).1 (callsIn_of_wp_marks hf hc trivial ?_)
    refine wpIn_mono (ihE' _ _ _ _ _ _ _ fn.ntmps hev hco false (fun h => by cases h) none B0 w0 g ⟨Args ++ Array.replicate (fn.ntmps - Args.size) Go.undef, []⟩ w (fun l hl => by cases hl) hI0 (by simp; omega) (Nat.le_refl _)) fun x a' w' hx => ?_
    obtain ⟨hx1, g1, Ds1, hI1, hP1, hz1, hd1, hm1, hp1, hq1⟩ := hx
    have hgrow := hgr' _ σ.length _ _ _ _ _ (by exact Nat.le_refl _) hev
    obtain ⟨u, v', hres, hret, ho, hσ⟩ := finish_some hfin
    injection ho with ho; subst ho
    have hn : σ.length ≤ finN (H f) σ.length s ∧ finN (H f) σ.length s ≤ s.σ.length ∧ Low (finN (H f) σ.length s) s.σ := by
     unfold finN
     split
     ·exact ⟨hgrow.1, Nat.le_refl _, hI1.low⟩
     ·exact ⟨Nat.le_refl _, hgrow.1, hgrow.2 _ (Nat.le_refl _) (Nat.le_refl _) hI.low⟩
    have hfinal : LeavesInM (FW none) 0 P fn a'.tmps (fun e w' => ∃ V g', e = .returned V ∧ Inv GL B0 w0 g' [(0, v)] σ' #[V] w' ∧ Post g w g' w') a'.defers .returning w' := by
     have hd2 : a'.defers = Ds1.map markD := by rw [hd1]; simp
     rw [hd2]
     refine leaves_marks Ds1 ⟨hm1.1, fun D hD => ⟨Nat.zero_le _, (hm1.2 D hD).2⟩⟩ hI1.base (fun D hD => Nat.le_trans hI.base (hm1.2 D hD).1) hI1 (fun w2 hI2 hk => ?_)
     obtain ⟨V, t0, hrun, hR⟩ := results_rel (P := P) hT hI2 hres
     obtain ⟨g2, hI3, hP3⟩ := hI2.ret hn.2.1 hn.2.2 (roV_rel hR) hret
     exact ⟨V, hrun, V, g2, rfl, by rw [hσ]; exact hI3, hP3 g w (hk g w hP1 (fun D hD => (hm1.2 D hD).1)) (by rw [hI.len]; exact hn.1)⟩
    rcases he with rfl | rfl
    ·have : x = .normal := hx1
     subst this
     exact hfinal
    ·have : x = .ret := hx1
     subst this
     exact hfinal
   ·obtain ⟨k', pend, nt, f, env, ps, ac, bc, s1, σ1, e, s2, r, hk, h0, hlp, hok, hE1, hσ1, hE2, hend⟩ := callK_yld_ret h
    have hk' : k = k' + 1 := by omega
    subst hk'
    obtain ⟨ihE', _, _⟩ := sim hT hF hPr k'
    have hgr' := (ev_grows (P := P) (T := ⟨ty, GL⟩) (H := H) k').1
    obtain ⟨el, hel, hea, hta, hfa, rec, hrec, q1, q2, q4, q5, q6, q7, q8⟩ := hI.objs id _ h0
    unfold yldOk at hok
    simp only [Bool.and_eq_true, decide_eq_true_eq] at hok
    obtain ⟨⟨⟨hoka, hokb⟩, hokp⟩, hokn⟩ := hok
    subst q4
    have hsz : Args.size = rec.params.size := by rw [← hl, ← hlp]; simp
    refine ⟨el, rec, hel, hrec, hsz, ?_⟩
    obtain ⟨hIr, hsr⟩ := hI.round hl hokn hlp (fun t ht => by
     have := List.all_eq_true.1 hokp t ht
     simp at this; omega) q8
    have hro : RoOk (some el.blk) w := fun l hl => by injection hl with hl; subst hl; exact ⟨rec, hrec⟩
    refine roundIn_of_wpIn trivial ?_
    rw [q5]
    refine wpIn_mono (F := FW (some el.blk)) (ihE' _ _ _ _ _ _ _ nt hE1 hoka false (fun h => by cases h) (some el.blk) B0 w0 g ⟨_, []⟩ w hro hIr (by rw [hsr]; exact q7) (Nat.le_refl _)) fun x a1 w1 hx => ?_
    obtain ⟨hx1, g1, Ds1, hI1, hP1, hz1, hd1, hm1, hp1, hq1⟩ := hx
    have : x = .normal := hx1
    subst this
    obtain ⟨p1, nt1, f1, env1, ps1, ac1, bc1, h1, hs1⟩ := setSt_some hσ1
    obtain ⟨el1, hel1, _, _, _, rec1, hrec1, r1, r2, r4, r5, r6, r7, r8⟩ := hI1.objs id _ h1
    have hsame : ∀ {g2 : G} {e2 : ME}, Gle g g2 → g2.μ[id]? = some e2 → e2 = el := fun hG he2 => by
     obtain ⟨e3, h3, _, _, _, h5⟩ := hG.μ id el hel
     rw [he2] at h3
     injection h3 with h3
     rw [h3, h5 hea]
    have := hsame hP1.gle hel1
    subst this
    have hset := hI1.setLoop (st' := 1) (p' := p1) h1 hel1 hrec1
    rw [show (none : Option (Option Code)).getD p1 = p1 from rfl] at hs1
    rw [← hs1] at hset
    obtain ⟨hI2, hP2⟩ := hset
    refine ⟨_, run_beginRound hrec1 r1, ?_⟩
    have hw2 : (w1.putObj el1.blk (.loop { rec1 with state := .busy })) = (w1.putObj el1.blk (.loop { rec1 with state := stOf 1, pending := p1 })) := by rw [← r2]; rfl
    rw [hw2]
    rw [q6]
    have hgr1 : Grows σ.length σ s1.σ := hgr' _ σ.length _ _ _ _ _ (by exact Nat.le_refl _) hE1
    have hgr2 : Grows σ.length σ σ1 := hgr1.trans (setSt_grows hσ1 _)
    have hgr3 : Grows σ.length σ s2.σ := hgr2.trans (hgr' _ σ.length _ _ _ _ _ (by exact hgr2.1) hE2)
    refine wpIn_mono (F := FW (some el1.blk)) (ihE' _ _ _ _ _ _ _ nt hE2 hokb false (fun h => by cases h) (some el1.blk) B0 w0 g1 a1 _ (hro.keep (hP1.trans hP2)) hI2 (by rw [hz1, hsr]; exact q7) (by exact hgr2.1)) fun x a2 w3 hx => ?_
    obtain ⟨hx2, g2, Ds2, hI3, hP3, hz2, hd2, hm2, hp2, hq2⟩ := hx
    have hPall : Post g w g2 w3 := (hP1.trans hP2).trans hP3
    have fin : ∀ (st : Nat) (pend : Option Code) (σ2 : List AObj) (b : Bool), setSt 1 s2.σ id st (some pend) = some σ2 → v = .p (.lit (.bool b)) → σ' = σ2.take σ.length → b = pend.isNone → st = (if pend.isNone = true then 0 else 2) →
     ∃ v1 w4, (Instr.endRound el1.blk pend).run P w3 = .ok v1 w4 ∧ ∃ V g', Ending.returned v1 = Ending.returned V ∧ Inv GL B0 w0 g' [(0, v)] σ' #[V] w4 ∧ Post g w g' w4 := by
     intro st pend σ2 b hs2 hv hσ' hb hst
     obtain ⟨p2, nt2, f2, env2, ps2, ac2, bc2, h2, rfl⟩ := setSt_some hs2
     obtain ⟨el2, hel2, _, _, _, rec2, hrec2, _⟩ := hI3.objs id _ h2
     have := hsame hPall.gle hel2
     subst this
     obtain ⟨hI4, hP4⟩ := hI3.setLoop (st' := st) (p' := pend) h2 hel2 hrec2
     have hwe : (w3.putObj el2.blk (.loop { rec2 with state := if pend.isNone = true then .ready else .done, pending := pend })) = (w3.putObj el2.blk (.loop { rec2 with state := stOf st, pending := pend })) := by
      rw [hst]
      cases pend <;> rfl
     refine ⟨.bool pend.isNone, _, run_endRound pend hrec2, .bool pend.isNone, g2.trunc σ.length, rfl, ?_, ?_⟩
     ·rw [hwe, hv, hσ', hb]
      have hlen2 : σ.length ≤ (s2.σ.set id (.loop st pend nt2 f2 env2 ps2 ac2 bc2)).length := by simpa using hgr3.1
      refine (hI4.reframe (env' := [(0, .p (.lit (.bool pend.isNone)))]) (tm' := #[.bool pend.isNone]) (fun t => ?_)).trunc hlen2 rfl ((hgr3.trans (Grows.set fun m _ hm hL => ?_)).2 _ (Nat.le_refl _) (Nat.le_refl _) hI.low)
      ·by_cases ht : t = 0
       ·subst ht
        exact RelS.of_A (RelA.of_p (by unfold RelP; exact ⟨rfl, rfl⟩))
       ·have : get [(0, AV.p (.lit (.bool pend.isNone)))] t = .undef := by simp [get]; intro e; exact absurd e.symm ht
        rw [this]
        unfold RelS RelA; trivial
      ·have h4 : ltVis m env2 = true := hL id _ hm h2
       exact h4
     ·rw [hwe]
      exact (hPall.trans hP4).trunc (by rw [hI.len]; exact Nat.le_refl _)
    cases e with
    | normal =>
     have : x = .normal := hx2
     subst this
     obtain ⟨σ2, hs2, hq⟩ := yldRet_some hend
     injection hq with hq1 hq2; injection hq1 with hq1; injection hq2 with hq2 _
     exact fin 0 none σ2 true hs2 hq1 hq2 rfl rfl
    | exit i =>
     have : x = .exit i := hx2
     subst this
     obtain ⟨σ2, hs2, hq⟩ := yldRet_some hend
     injection hq with hq1 hq2; injection hq1 with hq1; injection hq2 with hq2 _
     exact fin 2 (some (.exit i)) σ2 false hs2 hq1 hq2 rfl rfl
    | ret =>
     have : x = .ret := hx2
     subst this
     obtain ⟨σ2, hs2, hq⟩ := yldRet_some hend
     injection hq with hq1 hq2; injection hq1 with hq1; injection hq2 with hq2 _
     exact fin 2 (some .ret) σ2 false hs2 hq1 hq2 rfl rfl
    | pan v => simp [endYield] at hend
   ·obtain ⟨k', fn, c, s, hk, hf, hc, hok, hev, hσ⟩ := callK_pan h
    obtain ⟨hco, hnm⟩ := hF.2 f fn c hf hc hok
    refine ⟨⟨fn, hf, by rw [hc]; rfl, hnm⟩, ?_⟩
    have hk' : k = k' + 1 := by omega
    subst hk'
    obtain ⟨ihE', _, _⟩ := sim hT hF hPr k'
    have hgr' := (ev_grows (P := P) (T := ⟨ty, GL⟩) (H := H) k').1
    have hI0 := hI.pad (fn.ntmps - Args.size)
    refine (callsIn_FW (ro := none) (n := 0)).1 (callsIn_of_wp_marks hf hc trivial ?_)
    refine wpIn_mono (ihE' _ _ _ _ _ _ _ fn.ntmps hev hco false (fun h => by cases h) none B0 w0 g ⟨Args ++ Array.replicate (fn.ntmps - Args.size) Go.undef, []⟩ w (fun l hl => by cases hl) hI0 (by simp; omega) (Nat.le_refl _)) fun x a' w' hx => ?_
    obtain ⟨hx1, g1, Ds1, hI1, hP1, hz1, hd1, hm1, hp1, hq1⟩ := hx
    obtain ⟨V, rfl, hV⟩ := hp1
    have hgrow : Grows σ.length σ s.σ := hgr' _ σ.length _ _ _ _ _ (by exact Nat.le_refl _) hev
    have hd2 : a'.defers = Ds1.map markD ++ [] := by rw [hd1]
    show LeavesInM (FW none) 0 P fn a'.tmps _ a'.defers (.panicking [{ v := V, recovered := false }]) w'
    rw [hd2]
    refine leaves_marksK (by simp) Ds1 (Es := []) (by rw [List.append_nil]; exact ⟨hm1.1, fun D hD => ⟨Nat.zero_le _, (hm1.2 D hD).2⟩⟩) hI1.base (fun D hD => Nat.le_trans hI.base (hm1.2 D hD).1) hI1 (fun w2 hI2 _ hk => ?_)
    refine ⟨V, g1.trunc σ.length, rfl, ?_, (hk g w hP1 (fun D hD => (hm1.2 D hD).1)).trunc (by rw [hI.len]; exact Nat.le_refl _)⟩
    rw [hσ]
    refine (hI2.reframe (env' := [(0, .p v)]) (tm' := #[V]) (fun t => ?_)).trunc hgrow.1 rfl (hgrow.2 _ (Nat.le_refl _) (Nat.le_refl _) hI.low)
    by_cases ht : t = 0
    ·subst ht
     exact RelS.of_A (RelA.of_p hV)
    ·have : get [(0, AV.p v)] t = .undef := by simp [get]; intro e; exact absurd e.symm ht
     rw [this]
     unfold RelS RelA; trivial
theorem sim_call (hT : TabOk P ⟨ty, GL⟩) (hF : FnsOk P H) (hPr : PrimOk P GL H) : CallSim P GL (call P ⟨ty, GL⟩ H) := by
 refine ⟨fun f args σ v σ' h => ?_, fun id args σ v σ' h => ?_, fun f args σ v σ' h => ?_⟩
 ·obtain ⟨k, hk⟩ := call_some.1 h
  exact (sim hT hF hPr k).2.2.fn f args σ v σ' hk
 ·obtain ⟨k, hk⟩ := call_some.1 h
  exact (sim hT hF hPr k).2.2.yld id args σ v σ' hk
 ·obtain ⟨k, hk⟩ := call_some.1 h
  exact (sim hT hF hPr k).2.2.pan f args σ v σ' hk
end
end Go.AM
