/- A part of the abstract machine and its simulation. -/
import Derived.Test.YtbalikooghpmlaaDoorAmStep
import Derived.Laws.StructEq
import Derived.Laws.Sem
set_option linter.unusedVariables false
set_option linter.unusedSimpArgs false
namespace Go.AM
open Go Go.RowKit
def SimR (GL : List (Nat × List PV)) (B0 : Nat) (w0 : World) (g : G) (w : World) (env' : Env) (σ' : List AObj) (tm : Array Value) (dst : Option Nat) (r : Result Next) : Prop :=
 ∃ V g' w', (r = .ok (.value V) w' ∨ (r = .ok .skip w' ∧ V = undef)) ∧ Inv GL B0 w0 g' env' σ' (putT tm dst V) w' ∧ Post g w g' w'
section
variable {GL : List (Nat × List PV)} {B0 : Nat} {w0 : World} {g : G} {s : S} {tm : Array Value} {w : World} {ty : List TI} {P : Program} {H : FuncId → FH} {C : CallF} {h : FH} {base : Nat}
theorem SimR.value (hI : Inv GL B0 w0 g s.env s.σ tm w) {d : Option Nat} (hd : ∀ d', d = some d' → d' < tm.size) {v : AV} {V : Value} (hv : RelA g (fun _ => False) v V) {r : Result Next} (hr : r = .ok (.value V) w) :
 SimR GL B0 w0 g w (putE s.env d v) s.σ tm d r := by
 refine ⟨V, g, w, .inl hr, ?_, Post.refl g w⟩
 cases d with
 | none => exact hI
 | some d => exact hI.value (hd d rfl) (RelS.of_A hv)
theorem nilT_relA {g : G} {tg : Nat → Prop} {v : AV} {V : Value} {T : Tab} (t : TypeId) (h : RelA g tg v V) : RelA g tg (nilT T t v) V := by
 cases v with
 | p p =>
  cases p with
  | sl nl sz rows =>
   rcases nl with _ | _ | _
   ·exact h
   ·exact h
   ·show RelA g tg (match (T.at t).d with | .sl e => .own (T.at e).size [] | _ => .p (.sl (some true) sz rows)) V
    split
    ·unfold RelA at h ⊢
     unfold RelP at h
     obtain ⟨a, cap, e, hl, hn, _⟩ := h
     obtain ⟨rfl, rfl⟩ := hn rfl
     have : rows.length = 0 := by omega
     exact .inl ⟨by rw [e, this], rfl⟩
    ·exact h
  | _ => exact h
 | _ => exact h
theorem nilT_relS {g : G} {d : Nat} {v : AV} {V : Value} {T : Tab} (t : TypeId) (h : RelS g d v V) : RelS g d (nilT T t v) V := by
 cases v with
 | p p =>
  have h' := nilT_relA (T := T) t h
  revert h'
  cases p with
  | sl nl sz rows =>
   rcases nl with _ | _ | _
   ·exact id
   ·exact id
   ·show RelA g _ (match (T.at t).d with | .sl e => .own (T.at e).size [] | _ => .p (.sl (some true) sz rows)) V → RelS g d (match (T.at t).d with | .sl e => .own (T.at e).size [] | _ => .p (.sl (some true) sz rows)) V
    split <;> exact id
  | _ => exact id
 | _ => exact h
theorem nilX_relA {g : G} {tg : Nat → Prop} {v : AV} {V : Value} {T : Tab} (t : TypeId) (x : Operand) (h : RelA g tg v V) : RelA g tg (nilX T t x v) V := by
 cases x with
 | const c => exact nilT_relA t h
 | _ => exact h
theorem nilX_relS {g : G} {d : Nat} {v : AV} {V : Value} {T : Tab} (t : TypeId) (x : Operand) (h : RelS g d v V) : RelS g d (nilX T t x v) V := by
 cases x with
 | const c => exact nilT_relS t h
 | _ => exact h
theorem Inv.envs {GL : List (Nat × List PV)} {B0 : Nat} {w0 : World} {g : G} {env env' : Env} {σ : List AObj} {tm : Array Value} {w : World} (hI : Inv GL B0 w0 g env σ tm w) (h : ∀ t V, RelS g t (get env t) V → RelS g t (get env' t) V) : Inv GL B0 w0 g env' σ tm w :=
 ⟨hI.below, hI.base, hI.fz, hI.tlt, hI.own, fun t => h t _ (hI.env t), hI.objs, hI.len, hI.glob, hI.mlt⟩
theorem Inv.renil {GL : List (Nat × List PV)} {B0 : Nat} {w0 : World} {g : G} {env : Env} {σ : List AObj} {tm : Array Value} {w : World} {d : Nat} {v : AV} {T : Tab} (ty : TypeId) (x : Operand) (hI : Inv GL B0 w0 g ((d, v) :: env) σ tm w) : Inv GL B0 w0 g ((d, nilX T ty x v) :: env) σ tm w :=
 hI.envs fun t V h => by
  simp only [get] at h ⊢
  split
  ·rename_i e
   rw [if_pos e] at h
   have e' : d = t := by simpa using e
   subst e'; exact nilX_relS ty x h
  ·rename_i e
   rw [if_neg e] at h
   exact h
theorem unown_relS {g : G} {d : Nat} {v : AV} {V : Value} (h : RelS g d v V) : RelS g d (unown v) V := by
 cases v with
 | own sz rows =>
  have h2 := copyA_rel (show RelA g _ (.own sz rows) V from h)
  exact RelS.of_A h2
 | _ => exact h
theorem Inv.renilF {GL : List (Nat × List PV)} {B0 : Nat} {w0 : World} {g : G} {env : Env} {σ : List AObj} {tm : Array Value} {w : World} {d : Nat} {v : AV} {T : Tab} (fz : Bool) (ty : TypeId) (x : Operand) (hI : Inv GL B0 w0 g ((d, v) :: env) σ tm w) : Inv GL B0 w0 g ((d, nilF fz T ty x v) :: env) σ tm w := by
 have h1 := hI.renil (T := T) ty x
 unfold nilF
 split
 ·exact h1.envs fun t V h => by
   simp only [get] at h ⊢
   split
   ·rename_i e
    rw [if_pos e] at h
    have e' : d = t := by simpa using e
    subst e'; exact unown_relS h
   ·rename_i e
    rw [if_neg e] at h
    exact h
 ·exact h1
theorem get_app : ∀ (vs : List AV) (n t : Nat) (env : Env), get (envOf n vs ++ env) t = if n ≤ t ∧ t < n + vs.length then (vs[t - n]?).getD .undef else get env t
 | [], n, t, env => by
  rw [if_neg (by simp)]; rfl
 | v :: vs, n, t, env => by
  show get ((n, v) :: (envOf (n + 1) vs ++ env)) t = _
  simp only [get, beq_iff_eq]
  rw [get_app vs (n + 1) t env]
  by_cases e : n = t
  ·subst e; simp
  ·rw [if_neg e]
   by_cases h : n ≤ t ∧ t < n + (v :: vs).length
   ·simp only [List.length_cons] at h
    rw [if_pos (by omega), if_pos (by simp; omega), show t - n = (t - (n + 1)) + 1 by omega]; simp
   ·simp only [List.length_cons] at h
    rw [if_neg (by omega), if_neg (by simp; omega)]
theorem nilO_relS {g : G} {d : Nat} {v : AV} {V : Value} {T : Tab} {ow : Bool} (t : TypeId) (x : Operand) (h : RelS g d v V) : RelS g d (nilO T ow t x v) V := by
 cases x with
 | const c =>
  unfold nilO
  dsimp only
  split
  ·exact nilT_relS t h
  ·exact RelS.of_A (RelX.copy (x := .tmp d) (nilT_relS t h))
 | _ => exact h
theorem nilTs_len (T : Tab) (op : List Nat) : ∀ (i : Nat) (ts : List TypeId) (xs : List Operand) (vs : List AV), (nilTs T op i ts xs vs).length = vs.length
 | i, [], xs, vs => by simp [nilTs]
 | i, t :: ts, [], vs => by simp [nilTs]
 | i, t :: ts, x :: xs, [] => rfl
 | i, t :: ts, x :: xs, v :: vs => by simp [nilTs, nilTs_len T op (i + 1) ts xs vs]
theorem nilTs_get (T : Tab) (op : List Nat) : ∀ (k : Nat) (ts : List TypeId) (xs : List Operand) (vs : List AV) (i : Nat), (nilTs T op k ts xs vs)[i]? = vs[i]? ∨ ∃ ow t x v, vs[i]? = some v ∧ (nilTs T op k ts xs vs)[i]? = some (nilO T ow t x v)
 | k, [], xs, vs, i => .inl (by simp [nilTs])
 | k, t :: ts, [], vs, i => .inl (by simp [nilTs])
 | k, t :: ts, x :: xs, [], i => .inl rfl
 | k, t :: ts, x :: xs, v :: vs, 0 => .inr ⟨op.contains k, t, if op.contains (k + 1000) = true then .tmp 0 else x, v, rfl, rfl⟩
 | k, t :: ts, x :: xs, v :: vs, i + 1 => by simpa [nilTs] using nilTs_get T op (k + 1) ts xs vs i
theorem Inv.nilArgs {GL : List (Nat × List PV)} {B0 : Nat} {w0 : World} {g : G} {env : Env} {σ : List AObj} {tm : Array Value} {w : World} {T : Tab} (hI : Inv GL B0 w0 g env σ tm w) (n : Nat) (as : List AV) (op : List Nat) (ts : List TypeId) (xs : List Operand)
 (h : ∀ i, i < as.length → get env (n + i) = (as[i]?).getD .undef) :
 ∃ env', Inv GL B0 w0 g env' σ tm w ∧ (∀ t, t < n → get env' t = get env t) ∧ (∀ t, n + as.length ≤ t → get env' t = get env t) ∧ ∀ i, i < as.length → get env' (n + i) = ((nilTs T op 0 ts xs as)[i]?).getD .undef := by
 refine ⟨envOf n (nilTs T op 0 ts xs as) ++ env, hI.envs fun t V hr => ?_, fun t ht => ?_, fun t ht => ?_, fun i hi => ?_⟩
 ·rw [get_app, nilTs_len]
  split
  ·rename_i hc
   have h1 := h (t - n) (by omega)
   rw [show n + (t - n) = t by omega] at h1
   rcases nilTs_get T op 0 ts xs as (t - n) with e | ⟨ow, t', x, v, e1, e2⟩
   ·rw [e, ← h1]; exact hr
   ·rw [e2]
    rw [e1] at h1
    simp only [Option.getD_some] at h1 ⊢
    rw [h1] at hr
    exact nilO_relS t' x hr
  ·exact hr
 ·rw [get_app, if_neg (by omega)]
 ·rw [get_app, nilTs_len, if_neg (by omega)]
 ·rw [get_app, nilTs_len, if_pos (by omega), show n + i - n = i by omega]
theorem putRes_ok {s : S} {d : Option Nat} {v : Option AV} {s' : S} (h : putRes s d v = some (.ok s')) : ∃ x, v = some x ∧ s' = s.put d x := by
 cases v with
 | none => cases h
 | some x => injection h with h; injection h with h; exact ⟨x, rfl, h.symm⟩
theorem eval_move (ρ : Operand → Value) (o : Oper) (x : Operand) (ho : o.op = .move x) : (execOp ρ o).run P w = .ok (.value (ρ x)) w := by unfold execOp; rw [ho]; rfl
theorem eval_assign (ρ : Operand → Value) (o : Oper) (x : Operand) (ho : o.op = .assign x) : (execOp ρ o).run P w = .ok (.value (ρ x)) w := by unfold execOp; rw [ho]; rfl
theorem sim_hand (hI : Inv GL B0 w0 g s.env s.σ tm w) {d : Option Nat} (hd : ∀ d', d = some d' → d' < tm.size) (x : Operand) {r : Result Next} (hr : r = .ok (.value (evT tm x)) w) :
 SimR GL B0 w0 g w (putE (strip s.env x) d (rd ⟨ty, GL⟩ s.env x)) s.σ tm d r := by
 cases x with
 | tmp t =>
  cases d with
  | some d => exact ⟨_, _, _, .inl hr, hI.move (hd d rfl), Post.retag g w _⟩
  | none =>
   refine ⟨_, g, w, .inl hr, ?_, Post.refl g w⟩
   refine ⟨hI.below, hI.base, hI.fz, hI.tlt, hI.own, fun t' => ?_, hI.objs, hI.len, hI.glob, hI.mlt⟩
   show RelS g t' (get (strip s.env (.tmp t)) t') _
   rw [get_strip]
   split
   ·rename_i e; subst e
    have hx := hI.env t'
    split
    ·rename_i v hv; rw [hv] at hx; exact hx
    ·unfold RelS RelA; trivial
    ·exact RelS.of_A (RelX.copy (x := .tmp t') hx)
   ·exact hI.env t'
 | const v => exact SimR.value hI hd (hI.rd (.const v)) hr
 | global k => exact SimR.value hI hd (hI.rd (.global k)) hr
 | func f => exact SimR.value hI hd (hI.rd (.func f)) hr
theorem sim_move {o : Oper} {x : Operand} (ho : o.op = .move x) (hI : Inv GL B0 w0 g s.env s.σ tm w) (hd : ∀ d, o.dst = some d → d < tm.size) (hnf : ∀ d, o.dst = some d → ¬ h.fz.contains d = true) {s' : S} (hs : stepOp0 ⟨⟨ty, GL⟩, H, C, h, base⟩ o s = some (.ok s')) :
 SimR GL B0 w0 g w s'.env s'.σ tm o.dst ((execOp (evT tm) o).run P w) := by
 have hr := eval_move (P := P) (w := w) (evT tm) o x ho
 unfold stepOp0 at hs
 rw [ho] at hs
 cases hdst : o.dst with
 | none => simp [hdst] at hs
 | some d =>
  simp only [hdst] at hs
  rw [if_neg (hnf d hdst)] at hs
  split at hs
  ·injection hs with hs; injection hs with hs; subst hs
   show SimR GL B0 w0 g w (putE (AM.stripM h s.env x) (some d) (mvV ⟨ty, GL⟩ h s.env x)) s.σ tm (some d) ((execOp (evT tm) o).run P w)
   unfold mvV AM.stripM
   split
   ·exact SimR.value hI (by rw [hdst] at hd; exact hd) (hI.rdc x) hr
   ·exact sim_hand hI (by rw [hdst] at hd; exact hd) x hr
  ·injection hs with hs; injection hs with hs; subst hs
   exact SimR.value hI (by rw [hdst] at hd; exact hd) (hI.rdc x) hr
theorem sim_assign0 {o : Oper} {x : Operand} (ho : o.op = .assign x) (hn : asgN ⟨ty, GL⟩ h o.type s.σ x o.dst = none) (hI : Inv GL B0 w0 g s.env s.σ tm w) (hd : ∀ d, o.dst = some d → d < tm.size) {s' : S} (hs : stepOp0 ⟨⟨ty, GL⟩, H, C, h, base⟩ o s = some (.ok s')) :
 SimR GL B0 w0 g w s'.env s'.σ tm o.dst ((execOp (evT tm) o).run P w) := by
 have hr := eval_assign (P := P) (w := w) (evT tm) o x ho
 unfold stepOp0 at hs
 rw [ho] at hs
 dsimp only at hs
 rw [hn] at hs
 injection hs with hs; injection hs with hs; subst hs
 have h0 : SimR GL B0 w0 g w (putE (AM.stripM h s.env x) o.dst (mvV ⟨ty, GL⟩ h s.env x)) s.σ tm o.dst ((execOp (evT tm) o).run P w) := by
  unfold mvV AM.stripM
  split
  ·exact SimR.value hI hd (hI.rdc x) hr
  ·exact sim_hand hI hd x hr
 show SimR GL B0 w0 g w (putE (AM.stripM h s.env x) o.dst (nilF (fzO h o.dst) ⟨ty, GL⟩ o.type x (mvV ⟨ty, GL⟩ h s.env x))) s.σ tm o.dst ((execOp (evT tm) o).run P w)
 obtain ⟨V, g', w', hr', hI', hP'⟩ := h0
 refine ⟨V, g', w', hr', ?_, hP'⟩
 generalize fzO h o.dst = fz
 revert hI'
 cases o.dst with
 | none => exact id
 | some d => exact fun hI' => hI'.renilF fz o.type x
theorem RelP.lit {Φ : Mem} {v V : Value} (hr : RelP Φ (.lit v) V) : V = v := by unfold RelP at hr; exact hr.1
theorem Inv.lit (hI : Inv GL B0 w0 g s.env s.σ tm w) {x : Operand} {v : Value} (e : AM.rd ⟨ty, GL⟩ s.env x = AV.p (.lit v)) : evT tm x = v := by
 have := hI.rd (ty := ty) x
 rw [e] at this
 exact this.pure.lit
theorem RelA.lit {tg : Nat → Prop} {v : Value} (hl : litOk v = true) : RelA g tg (.p (.lit v)) v := by unfold RelA RelP; exact ⟨rfl, hl⟩
theorem sim_pick {o : Oper} {x a b : Operand} (ho : o.op = .pick x a b) (hI : Inv GL B0 w0 g s.env s.σ tm w) (hd : ∀ d, o.dst = some d → d < tm.size) {s' : S} (hs : stepOp0 ⟨⟨ty, GL⟩, H, C, h, base⟩ o s = some (.ok s')) :
 SimR GL B0 w0 g w s'.env s'.σ tm o.dst ((execOp (evT tm) o).run P w) := by
 unfold stepOp0 at hs
 rw [ho] at hs
 dsimp only at hs
 split at hs
 ·rename_i t ht
  injection hs with hs; injection hs with hs; subst hs
  have e := hI.lit ht
  have hr : (execOp (evT tm) o).run P w = .ok (.value (if t then evT tm a else evT tm b)) w := by
   unfold execOp; rw [ho]; simp [e, asBool]
  cases t with
  | true => exact SimR.value hI hd (hI.rdc a) hr
  | false => exact SimR.value hI hd (hI.rdc b) hr
 ·cases hs
theorem binSh_run0 {op : BinOp} {k k' : IntKind} {a b : Int} {v : Value} {t : TypeId} (hv : binSh op k a b = some v) : (binOp op t (.int k a) (.int k' b)).run P w = .ok v w ∧ litOk v = true := by
 unfold binSh at hv
 split at hv
 ·split at hv
  ·cases hv
  ·rename_i h0
   injection hv with hv; subst hv
   exact ⟨by simp [Go.binOp, Op.shift, h0, shlI], rfl⟩
 ·split at hv
  ·cases hv
  ·rename_i h0
   injection hv with hv; subst hv
   exact ⟨by simp [Go.binOp, Op.shift, h0, shrI], rfl⟩
 ·cases hv
theorem binInt_run {op : BinOp} {k : IntKind} {a b : Int} {v : Value} (hv : binInt op k a b = some v) (t : TypeId) (x y : Operand) :
 (do eqGuard op t x y (.int k a) (.int k b); binOp op t (.int k a) (.int k b)).run P w = .ok v w ∧ litOk v = true := by
 have he : (eqGuard op t x y (.int k a) (.int k b)).run P w = .ok () w := by
  unfold eqGuard
  split <;> rfl
 simp only [Sem.run_bind, he, Result.andThen_ok]
 unfold binInt at hv
 cases op
 case quo =>
  dsimp only at hv
  split at hv
  ·cases hv
  ·rename_i h0
   injection hv with hv; subst hv
   exact ⟨by simp [Go.binOp, Op.intDiv, h0], rfl⟩
 case rem =>
  dsimp only at hv
  split at hv
  ·cases hv
  ·rename_i h0
   injection hv with hv; subst hv
   exact ⟨by simp [Go.binOp, Op.intDiv, h0], rfl⟩
 case shl => exact binSh_run0 hv
 case shr => exact binSh_run0 hv
 all_goals (simp at hv; subst hv; exact ⟨by simp [Go.binOp, Op.intArith, Op.intCmp, Op.intBits, bAnd, bOr, bXor, bAnn], rfl⟩)
theorem binSh_run {op : BinOp} {k k' : IntKind} {a b : Int} {v : Value} (hv : binSh op k a b = some v) (t : TypeId) (x y : Operand) :
 (do eqGuard op t x y (.int k a) (.int k' b); binOp op t (.int k a) (.int k' b)).run P w = .ok v w ∧ litOk v = true := by
 have he : (eqGuard op t x y (.int k a) (.int k' b)).run P w = .ok () w := by
  unfold eqGuard
  split <;> rfl
 simp only [Sem.run_bind, he, Result.andThen_ok]
 exact binSh_run0 hv
theorem binBool_run (hT : TabOk P ⟨ty, GL⟩) {op : BinOp} {a b : Bool} {v : Value} {t : TypeId} (ht : tyBool ⟨ty, GL⟩ t = true) (hv : binBool op a b = some v) (x y : Operand) :
 (do eqGuard op t x y (.bool a) (.bool b); binOp op t (.bool a) (.bool b)).run P w = .ok v w ∧ litOk v = true := by
 have he : (eqGuard op t x y (.bool a) (.bool b)).run P w = .ok () w := by
  unfold eqGuard
  split <;> rfl
 have hu : P.underlying t = some .bool := by
  unfold tyBool at ht
  split at ht
  ·rename_i hd
   obtain ⟨i, u, hi, hu, h1, h2, h3, h4⟩ := (hT.ty t (by rw [hd]; simp)).out
   rw [hd] at h3
   cases u <;> simp [tdMatch] at h3
   exact hu
  ·cases ht
 have hr : (underlying t).run P w = .ok .bool w := run_underlying hu w
 have heq : (Op.equal t (.bool a) (.bool b)).run P w = .ok (a == b) w := by
  unfold Op.equal
  obtain ⟨d, hd⟩ : ∃ d, Op.maxDepth = d + 1 := ⟨Op.maxDepth - 1, by unfold Op.maxDepth; omega⟩
  rw [hd]
  unfold Op.equalIn
  rw [Sem.run_bind, hr]
  rfl
 simp only [Sem.run_bind, he, Result.andThen_ok]
 unfold binBool at hv
 cases op <;> simp at hv <;> subst hv <;> exact ⟨by simp [Go.binOp, heq, bne], rfl⟩
theorem binStr_run {op : BinOp} {a b : ByteArray} {v : Value} (hv : binStr op a b = some v) (t : TypeId) (x y : Operand) :
 (do eqGuard op t x y (.string a) (.string b); binOp op t (.string a) (.string b)).run P w = .ok v w ∧ litOk v = true := by
 have he : (eqGuard op t x y (.string a) (.string b)).run P w = .ok () w := by
  unfold eqGuard
  split <;> rfl
 simp only [Sem.run_bind, he, Result.andThen_ok]
 unfold binStr at hv
 cases op <;> simp at hv
 case add =>
  obtain ⟨h1, hv⟩ := hv
  subst hv
  have h2 : ¬ (((a.size + b.size : Nat) : Int) > IntKind.i64.max) := by
   have : IntKind.i64.max = 9223372036854775807 := by decide
   rw [this]; omega
  refine ⟨?_, rfl⟩
  unfold Go.binOp Op.stringOp
  simp only [h2, if_false]
  rfl
 all_goals (subst hv; exact ⟨by simp [Go.binOp, Op.stringOp, bne], rfl⟩)
theorem eqLit_run (hT : TabOk P ⟨ty, GL⟩) {Φ : Mem} {t : TypeId} {v u : PV} {V U : Value} {b : Bool} (he : eqLit ⟨ty, GL⟩ t v u = some b) (hv : RelP Φ v V) (hu : RelP Φ u U) (d : Nat) (w : World) :
 (Op.equalIn (d + 1) t V U).run P w = .ok b w ∧ (isAgg t).run P w = .ok false w := by
 have und : ∀ {td : TD}, (Tab.at ⟨ty, GL⟩ t).d = td → td ≠ .other → ∃ u, P.underlying t = some u ∧ tdMatch td u = true := fun hd hne => by
  obtain ⟨i, u, _, hu, _, _, h3, _⟩ := (hT.ty t (by rw [hd]; exact hne)).out
  rw [hd] at h3
  exact ⟨u, hu, h3⟩
 unfold eqLit at he
 split at he
 ·rename_i v
  split at he
  ·rename_i u
   unfold RelP at hv hu
   obtain ⟨rfl, _⟩ := hv
   obtain ⟨rfl, _⟩ := hu
   split at he
   ·split at he
    ·split at he
     ·rename_i hd
      split at he
      ·rename_i hk; subst hk
       injection he with he; subst he
       obtain ⟨u, hu, h3⟩ := und hd (by simp)
       cases u <;> simp [tdMatch] at h3
       exact ⟨run_equalIn_int w d t _ _ _ _ hu, hT.isAgg (by rw [hd]; rfl) w⟩
      ·cases he
     ·cases he
    ·cases he
   ·split at he
    ·split at he
     ·rename_i hd
      injection he with he; subst he
      obtain ⟨u, hu, h3⟩ := und hd (by simp)
      cases u <;> simp [tdMatch] at h3
      exact ⟨run_equalIn_bool' w d t _ _ hu, hT.isAgg (by rw [hd]; rfl) w⟩
     ·cases he
    ·cases he
   ·split at he
    ·split at he
     ·rename_i hd
      injection he with he; subst he
      obtain ⟨u, hu, h3⟩ := und hd (by simp)
      cases u <;> simp [tdMatch] at h3
      exact ⟨run_equalIn_string w d t _ _ hu, hT.isAgg (by rw [hd]; rfl) w⟩
     ·cases he
    ·cases he
   ·cases he
  ·cases he
 ·cases he
theorem eqFs_run (hT : TabOk P ⟨ty, GL⟩) {Φ : Mem} {cs ds : List PV} {Cs Ds : List Value} (hc : RelP1 Φ cs Cs) (hd : RelP1 Φ ds Ds) (d : Nat) (w : World) : ∀ (fields : List Field) {b : Bool}, (∀ f ∈ fields, f.name ≠ "_") → eqFs ⟨ty, GL⟩ cs ds (fields.map fun f => (f.offset, f.type)) = some b →
 (Op.eqFields (d + 1) Cs.toArray Ds.toArray fields).run P w = .ok b w
 | [], b, _, he => by simp [eqFs] at he; subst he; rfl
 | f :: fs, b, hn, he => by
  rw [List.map_cons] at he
  unfold eqFs at he
  have hne := hn f (by simp)
  obtain ⟨lc, gc⟩ := hc.get
  obtain ⟨ld, gd⟩ := hd.get
  cases h1 : cs[f.offset]? with
  | none => rw [h1] at he; cases he
  | some v =>
   cases h2 : ds[f.offset]? with
   | none => rw [h1, h2] at he; cases he
   | some u =>
    rw [h1, h2] at he
    cases h3 : eqLit ⟨ty, GL⟩ f.type v u with
    | none => simp only [eqOpt, h3] at he; cases he
    | some r =>
     simp only [eqOpt, h3] at he
     obtain ⟨V, hV, _, rV⟩ := gc _ _ h1
     obtain ⟨U, hU, _, rU⟩ := gd _ _ h2
     obtain ⟨hr, ha⟩ := eqLit_run hT h3 rV rU d w
     have p1 : (part f.type Cs.toArray f.offset).run P w = .ok V w := by
      unfold part
      simp [Sem.run_bind, ha, Result.andThen, hV]
     have p2 : (part f.type Ds.toArray f.offset).run P w = .ok U w := by
      unfold part
      simp [Sem.run_bind, ha, Result.andThen, hU]
     unfold Op.eqFields
     rw [if_pos hne, Sem.run_bind, p1, Result.andThen_ok, Sem.run_bind, p2, Result.andThen_ok, Sem.run_bind, hr, Result.andThen_ok]
     cases r with
     | true =>
      simp only [Bool.not_true, Bool.false_eq_true, if_false]
      exact eqFs_run hT hc hd d w fs (fun x hx => hn x (List.mem_cons_of_mem f hx)) he
     | false => simp only [eqThen] at he; injection he with he; subst he; rfl
theorem sim_stEq (hT : TabOk P ⟨ty, GL⟩) {o : Oper} {op : BinOp} {t t' : TypeId} {x y : Operand} (ho : o.op = .binOp op t x y t') (hI : Inv GL B0 w0 g s.env s.σ tm w) (hd : ∀ d, o.dst = some d → d < tm.size) {cs ds : List PV} {v : AV} (ha : rd ⟨ty, GL⟩ s.env x = .p (.agg cs)) (hb : rd ⟨ty, GL⟩ s.env y = .p (.agg ds)) (hv : stEq ⟨ty, GL⟩ t op cs ds = some v) :
 SimR GL B0 w0 g w (s.put o.dst v).env (s.put o.dst v).σ tm o.dst ((execOp (evT tm) o).run P w) := by
 have hra := hI.rd (ty := ty) x
 have hrb := hI.rd (ty := ty) y
 rw [ha] at hra
 rw [hb] at hrb
 have hpa := hra.pure
 have hpb := hrb.pure
 unfold RelP at hpa hpb
 obtain ⟨Cs, ea, rc⟩ := hpa
 obtain ⟨Ds, eb, rd'⟩ := hpb
 unfold stEq at hv
 split at hv
 ·rename_i heq
  split at hv
  ·rename_i fs hfs
   obtain ⟨fields, hu, rfl, hsi, hgt, hnm⟩ := (hT.ty t (by rw [hfs]; simp)).eq heq _ hfs
   have hfo : P.fieldsOf t = fields := by unfold Program.fieldsOf; rw [hu]
   have key : ∀ {b : Bool}, eqFs ⟨ty, GL⟩ cs ds (fields.toList.map fun f => (f.offset, f.type)) = some b → (Op.equalIn 10000 t (.agg Cs.toArray) (.agg Ds.toArray)).run P w = .ok b w := fun he => by
    rw [run_equalIn_struct w 9999 t _ _ (by rw [hfo]; exact hu) hsi, hfo]
    exact eqFs_run hT rc rd' 9998 w fields.toList hnm he
   have hg := run_eqGuard_agg (P := P) w op t x y Cs.toArray Ds.toArray hgt
   split at hv
   ·cases he : eqFs ⟨ty, GL⟩ cs ds (fields.toList.map fun f => (f.offset, f.type)) with
    | none => rw [he] at hv; cases hv
    | some b =>
     rw [he] at hv
     injection hv with hv; subst hv
     refine SimR.value hI hd (V := .bool b) (by unfold RelA RelP; exact ⟨by cases b <;> rfl, rfl⟩) ?_
     unfold execOp; rw [ho]
     simp only [ea, eb]
     rw [Sem.run_bind, Sem.run_bind, hg, Result.andThen_ok, run_eql_struct, key he]; rfl
   ·cases he : eqFs ⟨ty, GL⟩ cs ds (fields.toList.map fun f => (f.offset, f.type)) with
    | none => rw [he] at hv; cases hv
    | some b =>
     rw [he] at hv
     injection hv with hv; subst hv
     refine SimR.value hI hd (V := .bool !b) (by unfold RelA RelP; exact ⟨by cases b <;> rfl, rfl⟩) ?_
     unfold execOp; rw [ho]
     simp only [ea, eb]
     rw [Sem.run_bind, Sem.run_bind, hg, Result.andThen_ok, run_neq_struct, key he]; rfl
   ·cases hv
  ·cases hv
 ·cases hv
theorem nilR_some {α : Type} {l : List α} {b : Bool} (h : nilR l = some b) : b = false ∧ l ≠ [] := by
 cases l with
 | nil => cases h
 | cons a l => injection h with h; exact ⟨h.symm, by simp⟩
def isNilV : Value → Bool
 | .slice none _ _ => true
 | .pointer none => true
 | .map none => true
 | .nilFunc => true
 | .nilIface => true
 | _ => false
def nilKind : Value → Nat
 | .slice _ _ _ => 1
 | .pointer _ => 2
 | .map _ => 3
 | .nilFunc => 4
 | .func _ _ _ => 4
 | .iface _ _ => 6
 | .nilIface => 6
 | _ => 0
theorem nilQ_rel {g : G} {tg : Nat → Prop} {v : AV} {V : Value} {b : Bool} (hr : RelA g tg v V) (h : nilQ v = some b) : isNilV V = b ∧ nilKind V = nilAK v := by
 have sl : ∀ {a : Option Addr} {n c : Nat}, V = .slice a n c → a.isNone = b → isNilV V = b ∧ nilKind V = 1 := by
  intro a n c e hb
  subst e
  refine ⟨?_, rfl⟩
  cases a <;> simpa [isNilV] using hb
 cases v with
 | p pv =>
  unfold RelA at hr
  cases pv with
  | sl nl sz rows =>
   unfold RelP at hr
   obtain ⟨a, cap, e, hl, hn, hf, hs⟩ := hr
   refine sl e ?_
   rcases nl with _ | _ | _
   ·obtain ⟨rfl, hne⟩ := nilR_some h
    rcases hs with ⟨rfl, rfl⟩ | ⟨ad, rfl, _⟩
    ·cases rows with
     | nil => exact absurd rfl hne
     | cons r rs => simp at hl
    ·rfl
   ·injection h with h; subst h
    cases a with
    | none => exact absurd rfl (hf rfl).1
    | some a => rfl
   ·injection h with h; subst h
    rw [(hn rfl).1]; rfl
  | pp cells =>
   injection h with h; subst h
   unfold RelP at hr
   obtain ⟨ad, rfl, _⟩ := hr
   exact ⟨rfl, rfl⟩
  | fn f =>
   injection h with h; subst h
   unfold RelP at hr
   subst hr
   exact ⟨rfl, rfl⟩
  | ifc t u =>
   injection h with h; subst h
   unfold RelP at hr
   obtain ⟨_, rfl, _⟩ := hr
   exact ⟨rfl, rfl⟩
  | lit x =>
   unfold RelP at hr
   obtain ⟨rfl, _⟩ := hr
   unfold nilQ nilV nilL at h
   dsimp only at h
   split at h <;> first | (injection h with h; subst h; exact ⟨rfl, rfl⟩) | cases h
  | _ => cases h
 | own sz rows =>
  obtain ⟨rfl, hne⟩ := nilR_some h
  unfold RelA at hr
  rcases hr with ⟨_, h2⟩ | ⟨ad, cap, e, _⟩
  ·exact absurd h2 hne
  ·exact sl e rfl
 | asl ow sz rows =>
  obtain ⟨rfl, hne⟩ := nilR_some h
  unfold RelA at hr
  rcases hr with ⟨_, h2⟩ | ⟨ad, cap, e, _⟩
  ·exact absurd h2 hne
  ·exact sl e rfl
 | ms id gn sz off len =>
  injection h with h; subst h
  unfold RelA at hr
  obtain ⟨_, _, _, _, _, ad, cap, e, _⟩ := hr
  exact sl e rfl
 | ap cells =>
  injection h with h; subst h
  unfold RelA at hr
  obtain ⟨ad, rfl, _⟩ := hr
  exact ⟨rfl, rfl⟩
 | ptr id off =>
  injection h with h; subst h
  unfold RelA at hr
  obtain ⟨_, _, _, rfl⟩ := hr
  exact ⟨rfl, rfl⟩
 | ep id gn i j =>
  injection h with h; subst h
  unfold RelA at hr
  obtain ⟨_, _, _, _, ad, rfl, _⟩ := hr
  exact ⟨rfl, rfl⟩
 | mp id =>
  injection h with h; subst h
  unfold RelA at hr
  obtain ⟨_, _, _, rfl⟩ := hr
  exact ⟨rfl, rfl⟩
 | fn f cap =>
  injection h with h; subst h
  unfold RelA at hr
  obtain ⟨_, rfl, _⟩ := hr
  exact ⟨rfl, rfl⟩
 | nms id k =>
  injection h with h; subst h
  unfold RelA at hr
  obtain ⟨_, _, _, rfl⟩ := hr
  exact ⟨rfl, rfl⟩
 | ifc t u =>
  injection h with h; subst h
  unfold RelA at hr
  obtain ⟨_, rfl, _⟩ := hr
  exact ⟨rfl, rfl⟩
 | _ => cases h
theorem run_eqNil (hT : TabOk P ⟨ty, GL⟩) {t : TypeId} {a : Value} {y : Operand} (hy : nilC y = true) (ht : nilTy ⟨ty, GL⟩ t y = true) (ha : nilKind a = nilKind (evT tm y)) : (Op.equal t a (evT tm y)).run P w = .ok (isNilV a) w := by
 obtain ⟨c, rfl⟩ : ∃ c, y = .const c := by
  cases y with
  | const c => exact ⟨c, rfl⟩
  | _ => cases hy
 obtain ⟨d, hd⟩ : ∃ d, Op.maxDepth = d + 1 := ⟨Op.maxDepth - 1, by unfold Op.maxDepth; omega⟩
 unfold Op.equal
 rw [hd]
 unfold Op.equalIn
 rw [Sem.run_bind]
 have key : ∀ {td : TD}, (Tab.at ⟨ty, GL⟩ t).d = td → td ≠ .other → ∃ u, P.underlying t = some u ∧ tdMatch td u = true := by
  intro td h1 h2
  obtain ⟨i, u, hi, hu, _, _, h3, _⟩ := (hT.ty t (by rw [h1]; exact h2)).out
  exact ⟨u, hu, by rw [← h1]; exact h3⟩
 unfold nilTy at ht
 dsimp only at ht
 have hev : evT tm (.const c) = c := rfl
 rw [hev] at ha ⊢
 split at ht
 ·rename_i e hde
  obtain ⟨u, hu, hm⟩ := key hde (by simp)
  cases u <;> simp [tdMatch] at hm
  rw [run_underlying hu, Result.andThen_ok]
  cases c <;> simp at ht
  cases a <;> simp [nilKind] at ha
  rename_i a1 n1 c1 a2 n2 c2
  have : a1 = none := by
   cases a1 with
   | none => rfl
   | some ad => simp [nilC] at hy
  subst this
  cases a2 <;> rfl
 ·rename_i e hde
  obtain ⟨u, hu, hm⟩ := key hde (by simp)
  cases u <;> simp [tdMatch] at hm
  rw [run_underlying hu, Result.andThen_ok]
  cases c <;> simp at ht
  cases a <;> simp [nilKind] at ha
  rename_i a1 a2
  have : a1 = none := by
   cases a1 with
   | none => rfl
   | some ad => simp [nilC] at hy
  subst this
  cases a2 <;> rfl
 ·rename_i e1 e2 hde
  obtain ⟨u, hu, hm⟩ := key hde (by simp)
  cases u <;> simp [tdMatch] at hm
  rw [run_underlying hu, Result.andThen_ok]
  cases c <;> simp at ht
  cases a <;> simp [nilKind] at ha
  rename_i a1 a2
  have : a1 = none := by
   cases a1 with
   | none => rfl
   | some ad => simp [nilC] at hy
  subst this
  cases a2 <;> rfl
 ·rename_i hde
  obtain ⟨u, hu, hm⟩ := key hde (by simp)
  cases u <;> simp [tdMatch] at hm
  rw [run_underlying hu, Result.andThen_ok]
  cases c <;> simp at ht
  cases a <;> simp [nilKind] at ha <;> rfl
 ·rename_i hde
  obtain ⟨u, hu, hm⟩ := key hde (by simp)
  cases u <;> simp [tdMatch] at hm
  rw [run_underlying hu, Result.andThen_ok]
  cases c <;> simp at ht
  cases a <;> simp [nilKind] at ha <;> rfl
 ·cases ht
theorem binOp_nil {a c : Value} {b : Bool} {op : BinOp} {t : TypeId} (hk0 : nilKind a ≠ 0) (hk1 : nilKind a = nilKind c) (he : (Op.equal t a c).run P w = .ok b w) : (op = .eql → (binOp op t a c).run P w = .ok (.bool b) w) ∧ (op = .neq → (binOp op t a c).run P w = .ok (.bool !b) w) := by
 refine ⟨fun e => ?_, fun e => ?_⟩ <;> subst e
 ·cases a <;> first | (exact absurd rfl hk0) | (cases c <;> first | (cases hk1; done) | (simp [binOp, he]; done))
 ·cases a <;> first | (exact absurd rfl hk0) | (cases c <;> first | (cases hk1; done) | (simp [binOp, he]; done))
theorem sim_nilCmpV (hT : TabOk P ⟨ty, GL⟩) {o : Oper} {op : BinOp} {t t' : TypeId} {x y : Operand} (ho : o.op = .binOp op t x y t') (hI : Inv GL B0 w0 g s.env s.σ tm w) (hd : ∀ d, o.dst = some d → d < tm.size) {v : AV} {b : Bool} {n : Nat}
 (hy : nilC y = true) (ht : nilTy ⟨ty, GL⟩ t y = true) (h1 : isNilV (evT tm x) = b) (h2 : nilKind (evT tm x) = n) (hk : n = nilCK y) (hv : nilCmp op (some b) = some v) :
 SimR GL B0 w0 g w (s.put o.dst v).env (s.put o.dst v).σ tm o.dst ((execOp (evT tm) o).run P w) := by
 have hyk : nilKind (evT tm y) = nilCK y := by
  unfold nilC at hy
  split at hy <;> first | rfl | cases hy
 have he := run_eqNil (w := w) (tm := tm) hT hy ht (a := evT tm x) (by rw [h2, hk, hyk])
 rw [h1] at he
 obtain ⟨c, rfl⟩ : ∃ c, y = .const c := by
  cases y with
  | const c => exact ⟨c, rfl⟩
  | _ => cases hy
 have hk0 : nilKind (evT tm x) ≠ 0 := by
  rw [h2, hk]
  cases c <;> first | (simp [nilCK]; done) | (simp [nilC] at hy; done)
 have hg : (eqGuard op t x (.const c) (evT tm x) c).run P w = .ok () w := by
  revert hk0
  generalize evT tm x = a
  intro hk0
  unfold eqGuard
  cases op <;> first | rfl | (cases a <;> first | (exact absurd rfl hk0) | rfl | (cases c <;> first | rfl | simp))
 have hk1 : nilKind (evT tm x) = nilKind c := by rw [h2, hk]; exact hyk.symm
 have hb := binOp_nil (P := P) (w := w) (op := op) hk0 hk1 he
 have fin : ∀ r : Bool, v = .p (.lit (.bool r)) → (binOp op t (evT tm x) c).run P w = .ok (.bool r) w → SimR GL B0 w0 g w (s.put o.dst v).env (s.put o.dst v).σ tm o.dst ((execOp (evT tm) o).run P w) := by
  intro r hvr hbr
  subst hvr
  refine SimR.value hI hd (RelA.lit rfl) ?_
  have key : (do eqGuard op t x (.const c) (evT tm x) (evT tm (.const c)); binOp op t (evT tm x) (evT tm (.const c))).run P w = .ok (.bool r) w := by
   rw [Sem.run_bind]
   show ((eqGuard op t x (.const c) (evT tm x) c).run P w).andThen _ = _
   rw [hg, Result.andThen_ok]; exact hbr
  unfold execOp; rw [ho]
  dsimp only
  rw [Sem.run_bind, key]; rfl
 unfold nilCmp at hv
 dsimp only at hv
 split at hv
 ·injection hv with hv; exact fin b hv.symm (hb.1 rfl)
 ·injection hv with hv; exact fin (!b) hv.symm (hb.2 rfl)
 ·cases hv
theorem sim_nilCmp (hT : TabOk P ⟨ty, GL⟩) {o : Oper} {op : BinOp} {t t' : TypeId} {x y : Operand} (ho : o.op = .binOp op t x y t') (hI : Inv GL B0 w0 g s.env s.σ tm w) (hd : ∀ d, o.dst = some d → d < tm.size) {v : AV}
 (hy : nilC y = true) (ht : nilTy ⟨ty, GL⟩ t y = true) (hk : nilAK (rd ⟨ty, GL⟩ s.env x) = nilCK y) (hv : nilCmp op (nilQ (rd ⟨ty, GL⟩ s.env x)) = some v) :
 SimR GL B0 w0 g w (s.put o.dst v).env (s.put o.dst v).σ tm o.dst ((execOp (evT tm) o).run P w) := by
 cases hq : nilQ (rd ⟨ty, GL⟩ s.env x) with
 | none => rw [hq] at hv; cases hv
 | some b =>
  rw [hq] at hv
  have hnt : ∀ cs, rd ⟨ty, GL⟩ s.env x ≠ .tup cs := fun cs e => by rw [e] at hq; cases hq
  obtain ⟨h1, h2⟩ := nilQ_rel ((hI.rd (ty := ty) x).any hnt) hq
  exact sim_nilCmpV hT ho hI hd hy ht h1 h2 hk hv
theorem sim_binOp (hT : TabOk P ⟨ty, GL⟩) {o : Oper} {op : BinOp} {t t' : TypeId} {x y : Operand} (ho : o.op = .binOp op t x y t') (hI : Inv GL B0 w0 g s.env s.σ tm w) (hd : ∀ d, o.dst = some d → d < tm.size) {s' : S} (hs : stepOp0 ⟨⟨ty, GL⟩, H, C, h, base⟩ o s = some (.ok s')) :
 SimR GL B0 w0 g w s'.env s'.σ tm o.dst ((execOp (evT tm) o).run P w) := by
 unfold stepOp0 at hs
 rw [ho] at hs
 obtain ⟨v, hv, rfl⟩ := putRes_ok hs
 split at hv
 ·rename_i hy
  split at hv
  ·rename_i ht
   exact sim_nilCmp hT ho hI hd hy ht.1 ht.2 hv
  ·cases hv
 unfold binA at hv
 split at hv
 ·rename_i cs ha
  split at hv
  ·rename_i ds hb
   exact sim_stEq hT ho hI hd ha hb hv
  ·cases hv
 unfold binV at hv
 split at hv
 ·rename_i a ha
  split at hv
  ·rename_i b hb
   have ea := hI.lit ha
   have eb := hI.lit hb
   cases hl : binLit (tyBool ⟨ty, GL⟩ t) op a b with
   | none => rw [hl] at hv; cases hv
   | some u =>
    rw [hl] at hv
    injection hv with hv; subst hv
    have key : (do eqGuard op t x y a b; binOp op t a b).run P w = .ok u w ∧ litOk u = true := by
     unfold binLit at hl
     split at hl
     ·split at hl
      ·split at hl
       ·rename_i e; subst e; exact binInt_run hl t x y
       ·exact binSh_run hl t x y
      ·cases hl
     ·split at hl
      ·exact binStr_run hl t x y
      ·cases hl
     ·split at hl
      ·split at hl
       ·rename_i htb; exact binBool_run hT htb hl x y
       ·cases hl
      ·cases hl
     ·cases hl
    refine SimR.value hI hd (RelA.lit key.2) ?_
    unfold execOp; rw [ho]
    simp only [ea, eb]
    rw [Sem.run_bind, key.1]; rfl
  ·cases hv
 ·cases hv
theorem sim_unOp {o : Oper} {op : UnOp} {t : TypeId} {x : Operand} (ho : o.op = .unOp op t x) (hI : Inv GL B0 w0 g s.env s.σ tm w) (hd : ∀ d, o.dst = some d → d < tm.size) {s' : S} (hs : stepOp0 ⟨⟨ty, GL⟩, H, C, h, base⟩ o s = some (.ok s')) :
 SimR GL B0 w0 g w s'.env s'.σ tm o.dst ((execOp (evT tm) o).run P w) := by
 unfold stepOp0 at hs
 rw [ho] at hs
 dsimp only at hs
 split at hs
 ·rename_i b hb
  injection hs with hs; injection hs with hs; subst hs
  refine SimR.value hI hd (RelA.lit rfl) ?_
  unfold execOp; rw [ho]; simp [hI.lit hb, Op.unary]
 ·rename_i k n hb
  injection hs with hs; injection hs with hs; subst hs
  refine SimR.value hI hd (RelA.lit rfl) ?_
  unfold execOp; rw [ho]; simp [hI.lit hb, Op.unary, Op.intArith]
 ·rename_i k n hb
  injection hs with hs; injection hs with hs; subst hs
  refine SimR.value hI hd (RelA.lit rfl) ?_
  unfold execOp; rw [ho]; simp [hI.lit hb, Op.unary, Op.intBits, bXor]
 ·cases hs
end
end Go.AM
