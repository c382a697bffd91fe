/- A part of the abstract machine and its simulation. -/
import Derived.Test.YtbalikooghpmlaaDoorAmHid
set_option linter.unusedVariables false
set_option linter.unusedSimpArgs false
namespace Go.AM
open Go Go.RowKit
section
variable {GL : List (Nat × List PV)} {B0 : Nat} {w0 : World} {g : G} {env : Env} {σ : List AObj} {s : S} {tm : Array Value} {w : World} {ty : List TI} {P : Program} {H : FuncId → FH} {C : CallF} {h : FH} {base : Nat} {ro : Option Nat}
theorem run_pan (t : TypeId) (v : Value) (w : World) : (Instr.panic (.iface t v)).run P w = .halt (.panic (.iface t v)) w := rfl
theorem under_ok (hT : TabOk P ⟨ty, GL⟩) {t : TypeId} (h : (Tab.at ⟨ty, GL⟩ t).d.conc = true) : ∃ u, P.underlying t = some u ∧ ∀ x, u ≠ .interface x := by
 have hd : (Tab.at ⟨ty, GL⟩ t).d ≠ .other := by intro e; rw [e] at h; cases h
 obtain ⟨i, u, hi, hu, _, _, h3, _⟩ := (hT.ty t hd).out
 refine ⟨u, hu, fun x e => ?_⟩
 subst e
 revert h h3
 generalize (Tab.at ⟨ty, GL⟩ t).d = d
 intro h h3
 cases d <;> first | (cases h; done) | (simp [tdMatch] at h3; done)
theorem run_assert {x : Value} {t u : TypeId} {v : Value} {d : TypeDesc} (hu : P.underlying u = some d) (hd : ∀ x, d ≠ .interface x) : (Instr.typeAssert (.iface u v) t u true).run P w = .ok (.tuple #[v, .bool true]) w := by
 unfold Instr.typeAssert
 have h1 : (underlying u).run P w = .ok d w := run_underlying hu w
 simp only [Sem.run_bind, h1]
 cases d <;> first | (exact absurd rfl (hd _)) | simp
theorem sim_typeAssert (hT : TabOk P ⟨ty, GL⟩) {o : Oper} {x : Operand} {t u : TypeId} {ok : Bool} (ho : o.op = .typeAssert x t u ok) (hI : Inv GL B0 w0 g s.env s.σ tm w) (hd : ∀ d, o.dst = some d → d < tm.size) {s' : S} (hs : stepOp0 ⟨⟨ty, GL⟩, H, C, h, base⟩ o s = some (.ok s')) :
 SimR GL B0 w0 g w s'.env s'.σ tm o.dst ((execOp (evT tm) o).run P w) := by
 unfold stepOp0 at hs
 rw [ho] at hs
 dsimp only at hs
 unfold assertV at hs
 split at hs
 ·rename_i t' v hx
  split at hs
  ·rename_i hc
   obtain ⟨rfl, rfl, hcc⟩ := hc
   injection hs with hs; injection hs with hs; subst hs
   have hr := hI.rdc (ty := ty) x
   rw [hx] at hr
   unfold RelA at hr
   unfold RelP at hr
   obtain ⟨U, e, hU⟩ := hr
   obtain ⟨ud, hu, hne⟩ := under_ok hT hcc
   refine SimR.value hI hd (V := .tuple #[U, .bool true]) ?_ ?_
   ·unfold RelA RelP
    refine ⟨[U, .bool true], rfl, ?_⟩
    unfold RelPL
    refine ⟨U, [.bool true], rfl, hU, ?_⟩
    unfold RelPL
    refine ⟨.bool true, [], rfl, by unfold RelP; exact ⟨rfl, rfl⟩, ?_⟩
    unfold RelPL; rfl
   ·unfold execOp; rw [ho]
    have := run_assert (P := P) (w := w) (x := U) (t := t) (v := U) hu hne
    simp [e, this]
  ·cases hs
 ·cases hs
end
end Go.AM
