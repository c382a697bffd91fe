/- The given card TreeTextsCardSaid is proved: for every alphabet, names, tree and text that can be read, boskagelaw01.TreeTexts returns true and leaves its arguments as they read before. Condition: the package variable boskagelaw01.al holds what its text lays, as the given card ties it. -/
import Derived.Test.YtbalikooghpmlaaDoorLaws2
import Derived.Test.YtbalikooghpmlaaDoorCards
import Derived.Test.YtbalikooghpmlaaDoorTie
import Derived.Deep.DeepHandedRow
import Derived.Deep.DeepWitnessRowRef
import Derived.Lib.LaidIn
import Derived.ProofKit
import Derived.SizedLaws
import Derived.JoinedCond
set_option linter.unusedVariables false
set_option linter.unusedSimpArgs false
namespace Go.Proofs.YtbalikooghpmlaaDoor
open Go Go.AM Go.ChangeShapes Go.RowKit
set_option maxRecDepth 100000
theorem own : ownKnob Tryd.prog.godebug = none := by kernel_rfl
theorem callSim : CallSim Tryd.prog Go.AM.S01.GL (call Tryd.prog Go.AM.S01.T Go.AM.S01.H) := sim_call Go.AM.S01.tabOk Go.AM.S01.fnsOk Go.AM.S01.primOk
theorem gAl : Tryd.prog.globalNamed "boskage/boskagelaw01.al" = some 0 := by kernel_rfl
theorem gAlType : (Tryd.prog.globals[0]?).map (·.type) = some 28 := by kernel_rfl
theorem glob_al {W : World} (h : laidMetH Tryd.prog Rows.treeTextsRow.laid W) : ∀ k cs, globOf Go.AM.S01.GL k = some cs → RelPC (memOf W) cs k 0 := by
 intro k cs hk
 unfold Go.AM.S01.GL at hk
 simp only [globOf] at hk
 split at hk
 ·rename_i e
  have : (0 : Nat) = k := by simpa using e
  subst this
  injection hk with hk; subst hk
  exact laid_ints (zs := [0, 2]) gAl gAlType Tryd.underlying28 ⟨rfl, rfl⟩ Tryd.underlying26 Tryd.underlying3 (by kernel_rfl) (by kernel_rfl) (by kernel_rfl) (by simp) h
 ·cases hk
namespace treeTexts
theorem pars : Tryd.f8.params.toList = [28, 51, 24, 9] := by rw [Tryd.params8]
theorem law (pss : List (List PV)) (h : wtAll ⟨Go.AM.S01.TY, Go.AM.S01.GL⟩ Tryd.f8.params.toList pss) : ∃ σ', call Tryd.prog Go.AM.S01.T Go.AM.S01.H (.fn 8) (argsOf ⟨Go.AM.S01.TY, Go.AM.S01.GL⟩ Tryd.f8.params.toList pss) [] = some (.ret (.p (.lit (.bool true))), σ') := by
 rw [pars] at h ⊢
 exact Go.AM.S01.law8 pss h
theorem spec_fn (H : Type) (ds : List (DataW H)) (hl : ds.length = Tryd.f8.params.toList.length) : Rows.treeTextsSpec.fn H ds = { results := [.lit (.bool true)], args := ds } := by
 rw [pars] at hl
 match ds, hl with
 | [_, _, _, _], _ => rfl
theorem contract (Hd : Type) (enc : TypeId × Value → Hd) (W : World) (base : Nat) (args : Array Value) (ds gs : List (DataW Hd)) (before : List MemPlace)
 (hval : ∀ (j : Nat) t v, Tryd.f8.params[j]? = some t → args[j]? = some v → Value.okWide Tryd.prog W .any base t v)
 (hW : DataW.Whole enc Tryd.prog Tryd.f8.params.toList Rows.treeTextsSpec.vars false W args.toList ds gs before) (hL : laidMetH Tryd.prog Rows.treeTextsRow.laid W) :
 Calls Tryd.prog 8 args W fun e W' => ∃ v, e = .returned v ∧ Rows.treeTextsSpec.post enc Tryd.prog Tryd.f8 false true false false W args v W' :=
 law_contract (fn := Tryd.f8) (s := Rows.treeTextsSpec) (L := [3, 9, 22, 24, 26, 28, 51]) Go.AM.S01.tabOk callSim Go.AM.S01.closed8 (by rw [pars]; decide) (by kernel_rfl) (by kernel_rfl) (tb := 4) (by kernel_rfl) Tryd.underlying4 rfl
  spec_fn law W base args ds gs before hval hW (glob_al hL)
noncomputable def laidWorld (os : Os) : World :=
 { World.holding Tryd.prog os ⟨#[.cells #[.int .i64 0, .int .i64 2] 3 (0, 0)], #[], []⟩ with
  heap := (World.holding Tryd.prog os ⟨#[.cells #[.int .i64 0, .int .i64 2] 3 (0, 0)], #[], []⟩).heap.modify 0 fun
   | .cells _ t frozen => .cells #[.slice (some ⟨(World.settled Tryd.prog os).heap.size, 0, none⟩) 2 2] t frozen
   | o => o }
noncomputable def wArgs : Array Value := #[.agg #[.slice none 0 0], .slice none 0 0, .agg #[.int .i64 0, .slice none 0 0], .string ByteArray.empty]
theorem laid_met (os : Os) : laidMet Tryd.prog Rows.treeTextsRow.laid ((laidWorld os).forCall (fun _ _ => 0) ⟨#[], wArgs, []⟩).memory :=
 laidMet_of_run' 8 (by kernel_rfl) (by kernel_rfl)
theorem reads (os : Os) {H : Type} (enc : TypeId × Value → H) : ∃ places, DataW.whole enc Tryd.prog ((laidWorld os).forCall (fun _ _ => 0) ⟨#[], wArgs, []⟩).memory Tryd.f8.params.toList Rows.treeTextsSpec.vars false wArgs.toList 8 = some ([.agg [.nil], .nil, .agg [.lit (.int .i64 0), .nil], .lit (.string [])], [], places) :=
 ⟨[], by kernel_rfl⟩
theorem lifted (os : Os) (started : os.Started) (H : Type) (enc : TypeId × Value → H) (F : Stop.Interp) :
 ReturnsInHanded {} Tryd.checked os 8 .any ((OpenSpec.ofChange Rows.treeTextsSpec).preRow enc Tryd.prog Tryd.f8 Rows.treeTextsRow.domain false Rows.treeTextsRow.laid) (((OpenSpec.ofChange Rows.treeTextsSpec).at F).post enc Tryd.prog Tryd.f8 false true false false) := by
 obtain ⟨places, hx⟩ := reads os enc
 refine returnsInHanded_of_row (C := Tryd.checked) (s := OpenSpec.ofChange Rows.treeTextsSpec) own started (by kernel_rfl) Tryd.func8
  (witness_row_atRef (enc := enc) (C := Tryd.checked) false (laidWorld os) wArgs rfl (by kernel_rfl) (by kernel_rfl) (by kernel_rfl)
   (OpenSpec.preRow_of_cond 8 hx (by kernel_rfl) (fun k hk => by cases hk) (by kernel_rfl) (laid_met os))) ?_
 intro W base args ds gs before hval hW _ _ _ hL _ _
 exact contract H enc W base args ds gs before hval hW hL
theorem said : Rows.TreeTextsSaid :=
 OpenClaim.holds_of_cond 8 Tryd.f8 rfl rfl rfl rfl rfl rfl rfl ⟨rfl, rfl, rfl, rfl, rfl⟩ rfl rfl rfl rfl rfl (by kernel_rfl) Tryd.func8 (by kernel_rfl)
  (of_decide_eq_true (by kernel_rfl)) (by unfold Func.isWrapper; first | (rw [if_pos (by decide +kernel)]; kernel_rfl) | (rw [if_neg (by decide +kernel)]; exact ⟨rfl, rfl⟩))
  (fun os started H enc _ F => by rw [OpenClaim.pre_eq_preRow]; exact lifted os started H enc F)
theorem plain (f : FuncId) (fn : Func) (hf : Tryd.pinned.checked.prog.funcNamed "boskage/boskagelaw01.TreeTexts" = some f) (hfn : Tryd.pinned.checked.prog.funcs[f]? = some fn) :
 true = Tryd.pinned.checked.prog.looks [] ∧ ∀ (j : Nat) t, fn.params[j]? = some t → Tryd.pinned.checked.prog.wantsStandIn t = false := by
 obtain rfl : f = 8 := Option.some.inj ((show Tryd.prog.funcNamed "boskage/boskagelaw01.TreeTexts" = some 8 by kernel_rfl).symm.trans hf) |>.symm
 obtain rfl : fn = Tryd.f8 := (Option.some.inj (Tryd.func8.symm.trans hfn)).symm
 refine ⟨by kernel_rfl, fun j t ht => ?_⟩
 rw [Tryd.params8] at ht
 have hm : t = 28 ∨ t = 51 ∨ t = 24 ∨ t = 9 := by simpa using Array.mem_of_getElem? ht
 rcases hm with rfl | rfl | rfl | rfl
 ·exact (show Tryd.prog.wantsStandIn 28 = false by kernel_rfl)
 ·exact (show Tryd.prog.wantsStandIn 51 = false by kernel_rfl)
 ·exact (show Tryd.prog.wantsStandIn 24 = false by kernel_rfl)
 ·exact (show Tryd.prog.wantsStandIn 9 = false by kernel_rfl)
theorem card : Rows.TreeTextsCardSaid :=
 Claim7.holds_tied_plain_at .later [] _ _ _ _ said (fun _ h => by cases h) (by kernel_rfl) (fun _ h => by cases h) treeTexts_row_tie rfl ⟨rfl, rfl⟩ (by kernel_rfl) rfl plain (by kernel_rfl)
end treeTexts
#print axioms treeTexts.card
end Go.Proofs.YtbalikooghpmlaaDoor
