/- The given statement HedgePartsSaid is proved: for every number of labels, every unranked tree that can be read and every two numbers, boskagelaw02.HedgeParts returns true and leaves its arguments as they read before. No condition. -/
import Derived.Test.YtlplohgmoheeaaaLaws
import Derived.Test.YtlplohgmoheeaaaRows
import Derived.ProofKit
set_option linter.unusedVariables false
set_option linter.unusedSimpArgs false
namespace Go.Proofs.Ytlplohgmoheeaaa
open Go Go.AM Go.ChangeShapes Go.RowKit

set_option maxRecDepth 100000
namespace hedgeParts
theorem own : ownKnob Try.prog.godebug = none := by kernel_rfl
theorem callSim : CallSim Try.prog Go.AM.S02.GL (call Try.prog Go.AM.S02.T Go.AM.S02.H) := sim_call Go.AM.S02.tabOk Go.AM.S02.fnsOk Go.AM.S02.primOk
theorem globs (W : World) : ∀ k cs, globOf Go.AM.S02.GL k = some cs → RelPC (memOf W) cs k 0 := by
  intro k cs hk
  unfold Go.AM.S02.GL at hk
  cases hk
theorem pars : Try.f4.params.toList = [3, 24, 3, 3] := by rw [Try.params4]
theorem law (pss : List (List PV)) (h : wtAll ⟨Go.AM.S02.TY, Go.AM.S02.GL⟩ Try.f4.params.toList pss) : ∃ σ', call Try.prog Go.AM.S02.T Go.AM.S02.H (.fn 4) (argsOf ⟨Go.AM.S02.TY, Go.AM.S02.GL⟩ Try.f4.params.toList pss) [] = some (.ret (.p (.lit (.bool true))), σ') := by
  rw [pars] at h ⊢
  exact Go.AM.S02.law4 pss h
theorem spec_fn (H : Type) (ds : List (DataW H)) (hl : ds.length = Try.f4.params.toList.length) : Rows.hedgePartsSpec.fn H ds = { results := [.lit (.bool true)], args := ds } := by
  rw [pars] at hl
  match ds, hl with
  | [_, _, _, _], _ => rfl
theorem lifted (os : Os) (started : os.Started) (H : Type) (enc : TypeId × Value → H) :
    ReturnsInHanded {} Try.checked os 4 .any (Rows.hedgePartsSpec.pre6 enc Try.prog Try.f4 Rows.hedgePartsRow.domain false) (Rows.hedgePartsSpec.post enc Try.prog Try.f4 false true false false) := by
  refine returnsInHanded_of_change (C := Try.checked) own started (by kernel_rfl) Try.func4
    (ChangeSpec.witness6 (enc := enc) (C := Try.checked) false ⟨#[], #[.int .i64 0, .agg #[.int .i64 0, .slice none 0 0], .int .i64 0, .int .i64 0], []⟩ 8 (by kernel_rfl) (by kernel_rfl) (by kernel_rfl) (by kernel_rfl)) ?_
  intro W base args ds gs before hval hW _ _
  exact law_contract (fn := Try.f4) (s := Rows.hedgePartsSpec) (L := [3, 22, 24]) Go.AM.S02.tabOk callSim Go.AM.S02.closed (by rw [pars]; decide) (by kernel_rfl) (by kernel_rfl) (tb := 4) (by kernel_rfl) Try.underlying4 rfl
    spec_fn law W base args ds gs before hval hW (globs W)
theorem said : Rows.HedgePartsSaid :=
  OpenClaim.holds_of_wide 4 Try.f4 rfl rfl rfl rfl rfl rfl rfl ⟨rfl, rfl, rfl, rfl, rfl⟩ rfl rfl rfl rfl rfl (by kernel_rfl) Try.func4 (by kernel_rfl)
    (of_decide_eq_true (by kernel_rfl)) (by unfold Func.isWrapper; first | (rw [if_pos (by decide +kernel)]; kernel_rfl) | (rw [if_neg (by decide +kernel)]; exact ⟨rfl, rfl⟩))
    (fun os started H enc _ => lifted os started H enc)
end hedgeParts
#print axioms hedgeParts.said
end Go.Proofs.Ytlplohgmoheeaaa
