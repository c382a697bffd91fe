/- The given card AutoSingleCardSaid is proved: for every alphabet and tree that can be read, boskagelaw03.AutoSingle returns true and leaves its arguments as they read before. Condition: the package variables boskagelaw03.al, uint64pow10, deBruijn32tab and deBruijn64tab hold what their texts lay, as the given card ties them. -/
import Derived.Test.YtldbjaobpkdhnaaDoorLaws2
import Derived.Test.YtldbjaobpkdhnaaDoorCards
import Derived.Test.YtldbjaobpkdhnaaDoorTie
import Derived.Deep.DeepHandedRow
import Derived.Deep.DeepWitnessRowRef
import Derived.Lib.LaidIn
import Derived.ProofKit
import Derived.SizedLaws
import Derived.JoinedCond
set_option linter.unusedVariables false
set_option linter.unusedSimpArgs false
namespace Go.Proofs.YtldbjaobpkdhnaaDoor
open Go Go.AM Go.ChangeShapes Go.RowKit

set_option maxRecDepth 100000
theorem own : ownKnob Tryd.prog.godebug = none := by kernel_rfl
theorem callSim : CallSim Tryd.prog Go.AM.S03.GL (call Tryd.prog Go.AM.S03.T Go.AM.S03.H) := sim_call Go.AM.S03.tabOk Go.AM.S03.fnsOk Go.AM.S03.primOk
theorem gAl : Tryd.prog.globalNamed "boskage/boskagelaw03.al" = some 0 := by kernel_rfl
theorem gAlType : (Tryd.prog.globals[0]?).map (·.type) = some 24 := by kernel_rfl
theorem gP10 : Tryd.prog.globalNamed "internal/strconv.uint64pow10" = some 1 := by kernel_rfl
theorem gP10Type : (Tryd.prog.globals[1]?).map (·.type) = some 137 := by kernel_rfl
theorem glob_al {W : World} (h : laidMetH Tryd.prog Rows.autoSingleRow.laid W) : ∀ k cs, globOf Go.AM.S03.GL k = some cs → RelPC (memOf W) cs k 0 := by
  have h : laidMet Tryd.prog Rows.autoSingleRow.laid W := h
  have h1 : laidMet Tryd.prog [("internal/strconv.uint64pow10", Rows.laid_internal_strconv_uint64pow10)] W := laidMet_one h (by unfold Rows.autoSingleRow; simp only [List.mem_cons, true_or, or_true])
  have h2 : laidMet Tryd.prog [("boskage/boskagelaw03.al", Rows.laid_boskage_boskagelaw03_al)] W := laidMet_one h (by unfold Rows.autoSingleRow; simp only [List.mem_cons, true_or, or_true])
  intro k cs hk
  unfold Go.AM.S03.GL at hk
  simp only [globOf] at hk
  split at hk
  · rename_i e
    have : (0 : Nat) = k := by simpa using e
    subst this
    injection hk with hk; subst hk
    exact laid_ints (zs := [0, 2]) gAl gAlType Tryd.underlying24 ⟨rfl, rfl⟩ Tryd.underlying22 Tryd.underlying3 (by kernel_rfl) (by kernel_rfl) (by kernel_rfl) (by simp) h2
  · split at hk
    · rename_i e
      have : (1 : Nat) = k := by simpa using e
      subst this
      injection hk with hk; subst hk
      exact laid_arr (zs := Go.AM.S03.pow10L) (n := 20) gP10 gP10Type Tryd.underlying137 Tryd.underlying114 (by kernel_rfl) (by kernel_rfl) rfl (fun _ => rfl) h1
    · cases hk
namespace autoSingle
theorem pars : Tryd.f5.params.toList = [24, 30] := by rw [Tryd.params5]
theorem law (pss : List (List PV)) (h : wtAll ⟨Go.AM.S03.TY, Go.AM.S03.GL⟩ Tryd.f5.params.toList pss) : ∃ σ', call Tryd.prog Go.AM.S03.T Go.AM.S03.H (.fn 5) (argsOf ⟨Go.AM.S03.TY, Go.AM.S03.GL⟩ Tryd.f5.params.toList pss) [] = some (.ret (.p (.lit (.bool true))), σ') := by
  rw [pars] at h ⊢
  exact Go.AM.S03.law5 pss h
theorem spec_fn (H : Type) (ds : List (DataW H)) (hl : ds.length = Tryd.f5.params.toList.length) : Rows.autoSingleSpec.fn H ds = { results := [.lit (.bool true)], args := ds } := by
  rw [pars] at hl
  match ds, hl with
  | [_, _], _ => rfl
theorem contract (Hd : Type) (enc : TypeId × Value → Hd) (W : World) (base : Nat) (args : Array Value) (ds gs : List (DataW Hd)) (before : List MemPlace)
    (hval : ∀ (j : Nat) t v, Tryd.f5.params[j]? = some t → args[j]? = some v → Value.okWide Tryd.prog W .any base t v)
    (hW : DataW.Whole enc Tryd.prog Tryd.f5.params.toList Rows.autoSingleSpec.vars false W args.toList ds gs before) (hL : laidMetH Tryd.prog Rows.autoSingleRow.laid W) :
    Calls Tryd.prog 5 args W fun e W' => ∃ v, e = .returned v ∧ Rows.autoSingleSpec.post enc Tryd.prog Tryd.f5 false true false false W args v W' :=
  law_contract (fn := Tryd.f5) (s := Rows.autoSingleSpec) (L := [3, 22, 24, 25, 27, 28, 30, 83]) Go.AM.S03.tabOk callSim Go.AM.S03.closed (by rw [pars]; decide) (by kernel_rfl) (by kernel_rfl) (tb := 4) (by kernel_rfl) Tryd.underlying4 rfl
    spec_fn law W base args ds gs before hval hW (glob_al hL)

/-- a world for the witness: the variable holds what its text lays -/
noncomputable def laidWorld (os : Os) : World :=
  { World.holding Tryd.prog os ⟨#[.cells #[.int .i64 0, .int .i64 2] 3 (0, 0)], #[], []⟩ with
    heap := ((((World.holding Tryd.prog os ⟨#[.cells #[.int .i64 0, .int .i64 2] 3 (0, 0)], #[], []⟩).heap.modify 0 fun
      | .cells _ t frozen => .cells #[.slice (some ⟨(World.settled Tryd.prog os).heap.size, 0, none⟩) 2 2] t frozen
      | o => o).modify 1 fun
      | .cells _ t frozen => .cells #[.int .u64 1, .int .u64 10, .int .u64 100, .int .u64 1000, .int .u64 10000, .int .u64 100000, .int .u64 1000000, .int .u64 10000000, .int .u64 100000000, .int .u64 1000000000, .int .u64 10000000000, .int .u64 100000000000, .int .u64 1000000000000, .int .u64 10000000000000, .int .u64 100000000000000, .int .u64 1000000000000000, .int .u64 10000000000000000, .int .u64 100000000000000000, .int .u64 1000000000000000000, .int .u64 10000000000000000000] t frozen
      | o => o).modify 2 fun
      | .cells _ t frozen => .cells #[.int .u8 0, .int .u8 1, .int .u8 28, .int .u8 2, .int .u8 29, .int .u8 14, .int .u8 24, .int .u8 3, .int .u8 30, .int .u8 22, .int .u8 20, .int .u8 15, .int .u8 25, .int .u8 17, .int .u8 4, .int .u8 8, .int .u8 31, .int .u8 27, .int .u8 13, .int .u8 23, .int .u8 21, .int .u8 19, .int .u8 16, .int .u8 7, .int .u8 26, .int .u8 12, .int .u8 18, .int .u8 6, .int .u8 11, .int .u8 5, .int .u8 10, .int .u8 9] t frozen
      | o => o).modify 3 fun
      | .cells _ t frozen => .cells #[.int .u8 0, .int .u8 1, .int .u8 56, .int .u8 2, .int .u8 57, .int .u8 49, .int .u8 28, .int .u8 3, .int .u8 61, .int .u8 58, .int .u8 42, .int .u8 50, .int .u8 38, .int .u8 29, .int .u8 17, .int .u8 4, .int .u8 62, .int .u8 47, .int .u8 59, .int .u8 36, .int .u8 45, .int .u8 43, .int .u8 51, .int .u8 22, .int .u8 53, .int .u8 39, .int .u8 33, .int .u8 30, .int .u8 24, .int .u8 18, .int .u8 12, .int .u8 5, .int .u8 63, .int .u8 55, .int .u8 48, .int .u8 27, .int .u8 60, .int .u8 41, .int .u8 37, .int .u8 16, .int .u8 46, .int .u8 35, .int .u8 44, .int .u8 21, .int .u8 52, .int .u8 32, .int .u8 23, .int .u8 11, .int .u8 54, .int .u8 26, .int .u8 40, .int .u8 15, .int .u8 34, .int .u8 20, .int .u8 31, .int .u8 10, .int .u8 25, .int .u8 14, .int .u8 19, .int .u8 9, .int .u8 13, .int .u8 8, .int .u8 7, .int .u8 6] t frozen
      | o => o }
noncomputable def wArgs : Array Value := #[.agg #[.slice none 0 0], .agg #[.int .i64 0, .slice none 0 0]]
theorem laid_met (os : Os) : laidMet Tryd.prog Rows.autoSingleRow.laid ((laidWorld os).forCall (fun _ _ => 0) ⟨#[], wArgs, []⟩).memory :=
  laidMet_of_run' 8 (by kernel_rfl) (by kernel_rfl)
theorem reads (os : Os) {H : Type} (enc : TypeId × Value → H) : ∃ places, DataW.whole enc Tryd.prog ((laidWorld os).forCall (fun _ _ => 0) ⟨#[], wArgs, []⟩).memory Tryd.f5.params.toList Rows.autoSingleSpec.vars false wArgs.toList 8 = some ([.agg [.nil], .agg [.lit (.int .i64 0), .nil]], [], places) :=
  ⟨[], by kernel_rfl⟩
theorem lifted (os : Os) (started : os.Started) (H : Type) (enc : TypeId × Value → H) (F : Stop.Interp) :
    ReturnsInHanded {} Tryd.checked os 5 .any ((OpenSpec.ofChange Rows.autoSingleSpec).preRow enc Tryd.prog Tryd.f5 Rows.autoSingleRow.domain false Rows.autoSingleRow.laid) (((OpenSpec.ofChange Rows.autoSingleSpec).at F).post enc Tryd.prog Tryd.f5 false true false false) := by
  obtain ⟨places, hx⟩ := reads os enc
  refine returnsInHanded_of_row (C := Tryd.checked) (s := OpenSpec.ofChange Rows.autoSingleSpec) own started (by kernel_rfl) Tryd.func5
    (witness_row_atRef (enc := enc) (C := Tryd.checked) false (laidWorld os) wArgs rfl (by kernel_rfl) (by kernel_rfl) (by kernel_rfl)
      (OpenSpec.preRow_of_cond 8 hx (by kernel_rfl) (fun k hk => by cases hk) (by kernel_rfl) (laid_met os))) ?_
  intro W base args ds gs before hval hW _ _ _ hL _ _
  exact contract H enc W base args ds gs before hval hW hL

theorem said : Rows.AutoSingleSaid :=
  OpenClaim.holds_of_cond 5 Tryd.f5 rfl rfl rfl rfl rfl rfl rfl ⟨rfl, rfl, rfl, rfl, rfl⟩ rfl rfl rfl rfl rfl (by kernel_rfl) Tryd.func5 (by kernel_rfl)
    (of_decide_eq_true (by kernel_rfl)) (by unfold Func.isWrapper; first | (rw [if_pos (by decide +kernel)]; kernel_rfl) | (rw [if_neg (by decide +kernel)]; exact ⟨rfl, rfl⟩))
    (fun os started H enc _ F => by rw [OpenClaim.pre_eq_preRow]; exact lifted os started H enc F)

/-- no parameter wants a stand-in -/
theorem plain (f : FuncId) (fn : Func) (hf : Tryd.pinned.checked.prog.funcNamed "boskage/boskagelaw03.AutoSingle" = some f) (hfn : Tryd.pinned.checked.prog.funcs[f]? = some fn) :
    false = Tryd.pinned.checked.prog.looks [] ∧ ∀ (j : Nat) t, fn.params[j]? = some t → Tryd.pinned.checked.prog.wantsStandIn t = false := by
  obtain rfl : f = 5 := Option.some.inj ((show Tryd.prog.funcNamed "boskage/boskagelaw03.AutoSingle" = some 5 by kernel_rfl).symm.trans hf) |>.symm
  obtain rfl : fn = Tryd.f5 := (Option.some.inj (Tryd.func5.symm.trans hfn)).symm
  refine ⟨by kernel_rfl, fun j t ht => ?_⟩
  rw [Tryd.params5] at ht
  have hm : t = 24 ∨ t = 30 := by simpa using Array.mem_of_getElem? ht
  rcases hm with rfl | rfl
  · exact (show Tryd.prog.wantsStandIn 24 = false by kernel_rfl)
  · exact (show Tryd.prog.wantsStandIn 30 = false by kernel_rfl)

theorem card : Rows.AutoSingleCardSaid :=
  Claim7.holds_tied_plain_at .later [] _ _ _ _ said (fun _ h => by cases h) (by kernel_rfl) (fun _ h => by cases h) autoSingle_row_tie rfl ⟨rfl, rfl⟩ (by kernel_rfl) rfl plain (by kernel_rfl)
end autoSingle
#print axioms autoSingle.card
end Go.Proofs.YtldbjaobpkdhnaaDoor
