/- A part of the abstract machine and its simulation (AmOps). -/
import Derived.Test.YtldbjaobpkdhnaaDoorAmStep
import Derived.Laws.Sem
set_option linter.unusedVariables false
set_option linter.unusedSimpArgs false
namespace Go.AM
open Go Go.RowKit

def SimR (GL : List (Nat × List PV)) (B0 : Nat) (w0 : World) (g : G) (w : World) (env' : Env) (σ' : List AObj) (tm : Array Value) (dst : Option Nat) (r : Result Next) : Prop :=
  ∃ V g' w', (r = .ok (.value V) w' ∨ (r = .ok .skip w' ∧ V = undef)) ∧ Inv GL B0 w0 g' env' σ' (putT tm dst V) w' ∧ Post g w g' w'

section
variable {GL : List (Nat × List PV)} {B0 : Nat} {w0 : World} {g : G} {s : S} {tm : Array Value} {w : World} {ty : List TI} {P : Program} {H : FuncId → FH} {C : CallF} {h : FH} {base : Nat}

theorem SimR.value (hI : Inv GL B0 w0 g s.env s.σ tm w) {d : Option Nat} (hd : ∀ d', d = some d' → d' < tm.size) {v : AV} {V : Value} (hv : RelA g (fun _ => False) v V) {r : Result Next} (hr : r = .ok (.value V) w) :
    SimR GL B0 w0 g w (putE s.env d v) s.σ tm d r := by
  refine ⟨V, g, w, .inl hr, ?_, Post.refl g w⟩
  cases d with
  | none => exact hI
  | some d => exact hI.value (hd d rfl) (RelS.of_A hv)

theorem putRes_ok {s : S} {d : Option Nat} {v : Option AV} {s' : S} (h : putRes s d v = some (.ok s')) : ∃ x, v = some x ∧ s' = s.put d x := by
  cases v with
  | none => cases h
  | some x => injection h with h; injection h with h; exact ⟨x, rfl, h.symm⟩

theorem eval_move (ρ : Operand → Value) (o : Oper) (x : Operand) (ho : o.op = .move x) : (execOp ρ o).run P w = .ok (.value (ρ x)) w := by unfold execOp; rw [ho]; rfl
theorem eval_assign (ρ : Operand → Value) (o : Oper) (x : Operand) (ho : o.op = .assign x) : (execOp ρ o).run P w = .ok (.value (ρ x)) w := by unfold execOp; rw [ho]; rfl

/-- a value handed on from an operand -/
theorem sim_hand (hI : Inv GL B0 w0 g s.env s.σ tm w) {d : Option Nat} (hd : ∀ d', d = some d' → d' < tm.size) (x : Operand) {r : Result Next} (hr : r = .ok (.value (evT tm x)) w) :
    SimR GL B0 w0 g w (putE (strip s.env x) d (rd ⟨ty, GL⟩ s.env x)) s.σ tm d r := by
  cases x with
  | tmp t =>
    cases d with
    | some d => exact ⟨_, _, _, .inl hr, hI.move (hd d rfl), Post.retag g w _⟩
    | none =>
      refine ⟨_, g, w, .inl hr, ?_, Post.refl g w⟩
      refine ⟨hI.below, hI.base, hI.fz, hI.tlt, hI.own, fun t' => ?_, hI.objs, hI.len, hI.glob, hI.mlt⟩
      show RelS g t' (get (strip s.env (.tmp t)) t') _
      rw [get_strip]
      split
      · rename_i e; subst e
        have hx := hI.env t'
        split
        · rename_i v hv; rw [hv] at hx; exact hx
        · unfold RelS RelA; trivial
        · exact RelS.of_A (RelX.copy (x := .tmp t') hx)
      · exact hI.env t'
  | const v => exact SimR.value hI hd (hI.rd (.const v)) hr
  | global k => exact SimR.value hI hd (hI.rd (.global k)) hr
  | func f => exact SimR.value hI hd (hI.rd (.func f)) hr

theorem sim_move {o : Oper} {x : Operand} (ho : o.op = .move x) (hI : Inv GL B0 w0 g s.env s.σ tm w) (hd : ∀ d, o.dst = some d → d < tm.size) {s' : S} (hs : stepOp ⟨⟨ty, GL⟩, H, C, h, base⟩ o s = some (.ok s')) :
    SimR GL B0 w0 g w s'.env s'.σ tm o.dst ((execOp (evT tm) o).run P w) := by
  have hr := eval_move (P := P) (w := w) (evT tm) o x ho
  unfold stepOp at hs
  rw [ho] at hs
  cases hdst : o.dst with
  | none => simp [hdst] at hs
  | some d =>
    simp only [hdst] at hs
    split at hs
    · injection hs with hs; injection hs with hs; subst hs
      show SimR GL B0 w0 g w (putE (AM.stripM h s.env x) (some d) (mvV ⟨ty, GL⟩ h s.env x)) s.σ tm (some d) ((execOp (evT tm) o).run P w)
      unfold mvV AM.stripM
      split
      · exact SimR.value hI (by rw [hdst] at hd; exact hd) (hI.rdc x) hr
      · exact sim_hand hI (by rw [hdst] at hd; exact hd) x hr
    · injection hs with hs; injection hs with hs; subst hs
      exact SimR.value hI (by rw [hdst] at hd; exact hd) (hI.rdc x) hr
theorem sim_assign {o : Oper} {x : Operand} (ho : o.op = .assign x) (hI : Inv GL B0 w0 g s.env s.σ tm w) (hd : ∀ d, o.dst = some d → d < tm.size) {s' : S} (hs : stepOp ⟨⟨ty, GL⟩, H, C, h, base⟩ o s = some (.ok s')) :
    SimR GL B0 w0 g w s'.env s'.σ tm o.dst ((execOp (evT tm) o).run P w) := by
  have hr := eval_assign (P := P) (w := w) (evT tm) o x ho
  unfold stepOp at hs
  rw [ho] at hs
  injection hs with hs; injection hs with hs; subst hs
  show SimR GL B0 w0 g w (putE (AM.stripM h s.env x) o.dst (mvV ⟨ty, GL⟩ h s.env x)) s.σ tm o.dst ((execOp (evT tm) o).run P w)
  unfold mvV AM.stripM
  split
  · exact SimR.value hI hd (hI.rdc x) hr
  · exact sim_hand hI hd x hr

theorem RelP.lit {Φ : Mem} {v V : Value} (hr : RelP Φ (.lit v) V) : V = v := by unfold RelP at hr; exact hr.1
theorem Inv.lit (hI : Inv GL B0 w0 g s.env s.σ tm w) {x : Operand} {v : Value} (e : AM.rd ⟨ty, GL⟩ s.env x = AV.p (.lit v)) : evT tm x = v := by
  have := hI.rd (ty := ty) x
  rw [e] at this
  exact this.pure.lit
theorem RelA.lit {tg : Nat → Prop} {v : Value} (hl : litOk v = true) : RelA g tg (.p (.lit v)) v := by unfold RelA RelP; exact ⟨rfl, hl⟩

theorem sim_pick {o : Oper} {x a b : Operand} (ho : o.op = .pick x a b) (hI : Inv GL B0 w0 g s.env s.σ tm w) (hd : ∀ d, o.dst = some d → d < tm.size) {s' : S} (hs : stepOp ⟨⟨ty, GL⟩, H, C, h, base⟩ o s = some (.ok s')) :
    SimR GL B0 w0 g w s'.env s'.σ tm o.dst ((execOp (evT tm) o).run P w) := by
  unfold stepOp at hs
  rw [ho] at hs
  dsimp only at hs
  split at hs
  · rename_i t ht
    injection hs with hs; injection hs with hs; subst hs
    have e := hI.lit ht
    have hr : (execOp (evT tm) o).run P w = .ok (.value (if t then evT tm a else evT tm b)) w := by
      unfold execOp; rw [ho]; simp [e, asBool]
    cases t with
    | true => exact SimR.value hI hd (hI.rdc a) hr
    | false => exact SimR.value hI hd (hI.rdc b) hr
  · cases hs

theorem binInt_run {op : BinOp} {k : IntKind} {a b : Int} {v : Value} (hv : binInt op k a b = some v) (t : TypeId) (x y : Operand) :
    (do eqGuard op t x y (.int k a) (.int k b); binOp op t (.int k a) (.int k b)).run P w = .ok v w ∧ litOk v = true := by
  have he : (eqGuard op t x y (.int k a) (.int k b)).run P w = .ok () w := by
    unfold eqGuard
    split <;> rfl
  simp only [Sem.run_bind, he, Result.andThen_ok]
  unfold binInt at hv
  cases op <;> simp at hv <;> subst hv <;> exact ⟨by simp [Go.binOp, Op.intArith, Op.intCmp], rfl⟩
theorem binBool_run (hT : TabOk P ⟨ty, GL⟩) {op : BinOp} {a b : Bool} {v : Value} {t : TypeId} (ht : tyBool ⟨ty, GL⟩ t = true) (hv : binBool op a b = some v) (x y : Operand) :
    (do eqGuard op t x y (.bool a) (.bool b); binOp op t (.bool a) (.bool b)).run P w = .ok v w ∧ litOk v = true := by
  have he : (eqGuard op t x y (.bool a) (.bool b)).run P w = .ok () w := by
    unfold eqGuard
    split <;> rfl
  have hu : P.underlying t = some .bool := by
    unfold tyBool at ht
    split at ht
    · rename_i hd
      obtain ⟨i, u, hi, hu, h1, h2, h3, h4⟩ := (hT.ty t (by rw [hd]; simp)).out
      rw [hd] at h3
      cases u <;> simp [tdMatch] at h3
      exact hu
    · cases ht
  have hr : (underlying t).run P w = .ok .bool w := run_underlying hu w
  have heq : (Op.equal t (.bool a) (.bool b)).run P w = .ok (a == b) w := by
    unfold Op.equal
    obtain ⟨d, hd⟩ : ∃ d, Op.maxDepth = d + 1 := ⟨Op.maxDepth - 1, by unfold Op.maxDepth; omega⟩
    rw [hd]
    unfold Op.equalIn
    rw [Sem.run_bind, hr]
    rfl
  simp only [Sem.run_bind, he, Result.andThen_ok]
  unfold binBool at hv
  cases op <;> simp at hv <;> subst hv <;> exact ⟨by simp [Go.binOp, heq, bne], rfl⟩
theorem binStr_run {op : BinOp} {a b : ByteArray} {v : Value} (hv : binStr op a b = some v) (t : TypeId) (x y : Operand) :
    (do eqGuard op t x y (.string a) (.string b); binOp op t (.string a) (.string b)).run P w = .ok v w ∧ litOk v = true := by
  have he : (eqGuard op t x y (.string a) (.string b)).run P w = .ok () w := by
    unfold eqGuard
    split <;> rfl
  simp only [Sem.run_bind, he, Result.andThen_ok]
  unfold binStr at hv
  cases op <;> simp at hv
  case add =>
    obtain ⟨h1, hv⟩ := hv
    subst hv
    have h2 : ¬ (((a.size + b.size : Nat) : Int) > IntKind.i64.max) := by
      have : IntKind.i64.max = 9223372036854775807 := by decide
      rw [this]; omega
    refine ⟨?_, rfl⟩
    unfold Go.binOp Op.stringOp
    simp only [h2, if_false]
    rfl
  all_goals (subst hv; exact ⟨by simp [Go.binOp, Op.stringOp, bne], rfl⟩)

theorem sim_binOp (hT : TabOk P ⟨ty, GL⟩) {o : Oper} {op : BinOp} {t t' : TypeId} {x y : Operand} (ho : o.op = .binOp op t x y t') (hI : Inv GL B0 w0 g s.env s.σ tm w) (hd : ∀ d, o.dst = some d → d < tm.size) {s' : S} (hs : stepOp ⟨⟨ty, GL⟩, H, C, h, base⟩ o s = some (.ok s')) :
    SimR GL B0 w0 g w s'.env s'.σ tm o.dst ((execOp (evT tm) o).run P w) := by
  unfold stepOp at hs
  rw [ho] at hs
  obtain ⟨v, hv, rfl⟩ := putRes_ok hs
  unfold binV at hv
  split at hv
  · rename_i a ha
    split at hv
    · rename_i b hb
      have ea := hI.lit ha
      have eb := hI.lit hb
      cases hl : binLit (tyBool ⟨ty, GL⟩ t) op a b with
      | none => rw [hl] at hv; cases hv
      | some u =>
        rw [hl] at hv
        injection hv with hv; subst hv
        have key : (do eqGuard op t x y a b; binOp op t a b).run P w = .ok u w ∧ litOk u = true := by
          unfold binLit at hl
          split at hl
          · split at hl
            · split at hl
              · rename_i e; subst e; exact binInt_run hl t x y
              · cases hl
            · cases hl
          · split at hl
            · exact binStr_run hl t x y
            · cases hl
          · split at hl
            · split at hl
              · rename_i htb; exact binBool_run hT htb hl x y
              · cases hl
            · cases hl
          · cases hl
        refine SimR.value hI hd (RelA.lit key.2) ?_
        unfold execOp; rw [ho]
        simp only [ea, eb]
        rw [Sem.run_bind, key.1]; rfl
    · cases hv
  · cases hv

theorem sim_unOp {o : Oper} {op : UnOp} {t : TypeId} {x : Operand} (ho : o.op = .unOp op t x) (hI : Inv GL B0 w0 g s.env s.σ tm w) (hd : ∀ d, o.dst = some d → d < tm.size) {s' : S} (hs : stepOp ⟨⟨ty, GL⟩, H, C, h, base⟩ o s = some (.ok s')) :
    SimR GL B0 w0 g w s'.env s'.σ tm o.dst ((execOp (evT tm) o).run P w) := by
  unfold stepOp at hs
  rw [ho] at hs
  dsimp only at hs
  split at hs
  · rename_i b hb
    injection hs with hs; injection hs with hs; subst hs
    refine SimR.value hI hd (RelA.lit rfl) ?_
    unfold execOp; rw [ho]; simp [hI.lit hb, Op.unary]
  · rename_i k n hb
    injection hs with hs; injection hs with hs; subst hs
    refine SimR.value hI hd (RelA.lit rfl) ?_
    unfold execOp; rw [ho]; simp [hI.lit hb, Op.unary, Op.intArith]
  · cases hs
end
end Go.AM
