/- The given statement HedgeTextsSaid is proved: for every number of labels, every names, every hedge and every text that can be read, boskagelaw02.HedgeTexts returns true and leaves its arguments as they read before. No condition. -/
import Derived.Test.YtlplohgmoheeaaaLaws
import Derived.Test.YtlplohgmoheeaaaRows
import Derived.ProofKit
set_option linter.unusedVariables false
set_option linter.unusedSimpArgs false
namespace Go.Proofs.Ytlplohgmoheeaaa
open Go Go.AM Go.ChangeShapes Go.RowKit
set_option maxRecDepth 100000
namespace hedgeTexts
theorem own : ownKnob Try.prog.godebug = none := by kernel_rfl
theorem callSim : CallSim Try.prog Go.AM.S02.GL (call Try.prog Go.AM.S02.T Go.AM.S02.H) := sim_call Go.AM.S02.tabOk Go.AM.S02.fnsOk Go.AM.S02.primOk
theorem globs (W : World) : ∀ k cs, globOf Go.AM.S02.GL k = some cs → RelPC (memOf W) cs k 0 := by
 intro k cs hk
 unfold Go.AM.S02.GL at hk
 cases hk
theorem pars : Try.f7.params.toList = [3, 60, 22, 9] := by rw [Try.params7]
theorem law (pss : List (List PV)) (h : wtAll ⟨Go.AM.S02.TY, Go.AM.S02.GL⟩ Try.f7.params.toList pss) : ∃ σ', call Try.prog Go.AM.S02.T Go.AM.S02.H (.fn 7) (argsOf ⟨Go.AM.S02.TY, Go.AM.S02.GL⟩ Try.f7.params.toList pss) [] = some (.ret (.p (.lit (.bool true))), σ') := by
 rw [pars] at h ⊢
 exact Go.AM.S02.law7 pss h
theorem spec_fn (H : Type) (ds : List (DataW H)) (hl : ds.length = Try.f7.params.toList.length) : Rows.hedgeTextsSpec.fn H ds = { results := [.lit (.bool true)], args := ds } := by
 rw [pars] at hl
 match ds, hl with
 | [_, _, _, _], _ => rfl
theorem lifted (os : Os) (started : os.Started) (H : Type) (enc : TypeId × Value → H) :
 ReturnsInHanded {} Try.checked os 7 .any (Rows.hedgeTextsSpec.pre6 enc Try.prog Try.f7 Rows.hedgeTextsRow.domain false) (Rows.hedgeTextsSpec.post enc Try.prog Try.f7 false true false false) := by
 refine returnsInHanded_of_change (C := Try.checked) own started (by kernel_rfl) Try.func7
  (ChangeSpec.witness6 (enc := enc) (C := Try.checked) false ⟨#[], #[.int .i64 0, .slice none 0 0, .slice none 0 0, .string ByteArray.empty], []⟩ 8 (by kernel_rfl) (by kernel_rfl) (by kernel_rfl) (by kernel_rfl)) ?_
 intro W base args ds gs before hval hW _ _
 exact law_contract (fn := Try.f7) (s := Rows.hedgeTextsSpec) (L := [3, 9, 22, 24, 60]) Go.AM.S02.tabOk callSim Go.AM.S02.closed7 (by rw [pars]; decide) (by kernel_rfl) (by kernel_rfl) (tb := 4) (by kernel_rfl) Try.underlying4 rfl
  spec_fn law W base args ds gs before hval hW (globs W)
theorem said : Rows.HedgeTextsSaid :=
 OpenClaim.holds_of_wide 7 Try.f7 rfl rfl rfl rfl rfl rfl rfl ⟨rfl, rfl, rfl, rfl, rfl⟩ rfl rfl rfl rfl rfl (by kernel_rfl) Try.func7 (by kernel_rfl)
  (of_decide_eq_true (by kernel_rfl)) (by unfold Func.isWrapper; first | (rw [if_pos (by decide +kernel)]; kernel_rfl) | (rw [if_neg (by decide +kernel)]; exact ⟨rfl, rfl⟩))
  (fun os started H enc _ => lifted os started H enc)
end hedgeTexts
#print axioms hedgeTexts.said
end Go.Proofs.Ytlplohgmoheeaaa
