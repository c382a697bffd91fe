/-
  NARROWER THAN 'FOR EVERY INPUT', by the rows' own cells (each row's printed sentence says how): RepairRelabels: loops · RepairHoles: loops · RepairDistances: loops · RepairLaws: loops · RepairCosts: loops.
  DERIVED. THE GIVEN ROWS OF THIS SEAT. 5 by the template 'for every input the law returns true; each argument reads behind the call as it read before'; 0 by the template 'total and deterministic' (their statements: YtnfggookadgjiaaTotals.lean).
  GIVEN WITH THE SEED: the statements are not yours to turn. If you find one false, say at which input.
  Laid BY PROGRAM, IN A SANDBOX (cutbox-rows.mjs): the forced cells as the released guide's own fill.sh prints them over the translation 09ec6f21ec6c66fd… (all of the seat's roots in one cut). By AI agents, Wed Nov 11 2026. No macro, syntax, notation, axiom, sorry.
-/
import Derived.Test.YtnfggookadgjiaaChecked
import GoSem.Claim
import GoSem.ClaimJoined
import GoSem.ClaimMapViews
import Derived.JoinedTies
import Derived.KernelRfl
namespace Go.Proofs.Ytnfggookadgjiaa
/- THE CELL 'sum', in the pinned program and in every row, IS THE sha256 OF THE DUMP (.gsa) THAT YtnfggookadgjiaaProg.lean LOADS. Nothing in Lean hashes anything: it is a label: what it is worth is what the hold of that sum in a sandbox is worth. -/
noncomputable def Try.pinned : Pinned := { name := "ytnfggookadgjiaa", sum := "09ec6f21ec6c66fda946601099e8c354096c9995feeeaa9f36d6189b2ea5ab5f", checked := Try.checked }
namespace Rows
def none {H : Type} : Left H := { results := [], args := [] }

/-- 'boskagelaw22.RepairRelabels': WHATEVER THE INPUT: true; the input reads as it did. -/
def repairRelabelsSpec : ChangeSpec := { name := "repairRelabels", fn := fun _ => fun
  | [d1, d2, d3] => { results := [.lit (.bool true)], args := [d1, d2, d3] }
  | _ => none }
def repairRelabelsRow : OpenClaim := { program := "ytnfggookadgjiaa", sum := "09ec6f21ec6c66fda946601099e8c354096c9995feeeaa9f36d6189b2ea5ab5f", func := "boskage/boskagelaw22.RepairRelabels", spec := "repairRelabels", unfollowed := true, recurses := true, loops := true, apart := false }
def RepairRelabelsSaid : Prop := repairRelabelsRow.holds Try.pinned (OpenSpec.ofChange repairRelabelsSpec)

/-- ITS FALSE NEIGHBOUR: 'it returns false'. Refute it at one input. -/
def repairRelabelsWrong : ChangeSpec := { name := "repairRelabels", fn := fun _ => fun
  | [d1, d2, d3] => { results := [.lit (.bool false)], args := [d1, d2, d3] }
  | _ => none }
def RepairRelabelsWrongFalsely : Prop := repairRelabelsRow.holds Try.pinned (OpenSpec.ofChange repairRelabelsWrong)

/-- 'boskagelaw22.RepairHoles': WHATEVER THE INPUT: true; the input reads as it did. -/
def repairHolesSpec : ChangeSpec := { name := "repairHoles", fn := fun _ => fun
  | [d1, d2, d3] => { results := [.lit (.bool true)], args := [d1, d2, d3] }
  | _ => none }
def repairHolesRow : OpenClaim := { program := "ytnfggookadgjiaa", sum := "09ec6f21ec6c66fda946601099e8c354096c9995feeeaa9f36d6189b2ea5ab5f", func := "boskage/boskagelaw22.RepairHoles", spec := "repairHoles", unfollowed := true, recurses := true, loops := true, apart := false }
def RepairHolesSaid : Prop := repairHolesRow.holds Try.pinned (OpenSpec.ofChange repairHolesSpec)

/-- ITS FALSE NEIGHBOUR: 'it returns false'. Refute it at one input. -/
def repairHolesWrong : ChangeSpec := { name := "repairHoles", fn := fun _ => fun
  | [d1, d2, d3] => { results := [.lit (.bool false)], args := [d1, d2, d3] }
  | _ => none }
def RepairHolesWrongFalsely : Prop := repairHolesRow.holds Try.pinned (OpenSpec.ofChange repairHolesWrong)

/-- 'boskagelaw22.RepairDistances': WHATEVER THE INPUT: true; the input reads as it did. -/
def repairDistancesSpec : ChangeSpec := { name := "repairDistances", fn := fun _ => fun
  | [d1, d2, d3, d4, d5] => { results := [.lit (.bool true)], args := [d1, d2, d3, d4, d5] }
  | _ => none }
def repairDistancesRow : OpenClaim := { program := "ytnfggookadgjiaa", sum := "09ec6f21ec6c66fda946601099e8c354096c9995feeeaa9f36d6189b2ea5ab5f", func := "boskage/boskagelaw22.RepairDistances", spec := "repairDistances", unfollowed := true, recurses := true, loops := true, apart := false }
def RepairDistancesSaid : Prop := repairDistancesRow.holds Try.pinned (OpenSpec.ofChange repairDistancesSpec)

/-- ITS FALSE NEIGHBOUR: 'it returns false'. Refute it at one input. -/
def repairDistancesWrong : ChangeSpec := { name := "repairDistances", fn := fun _ => fun
  | [d1, d2, d3, d4, d5] => { results := [.lit (.bool false)], args := [d1, d2, d3, d4, d5] }
  | _ => none }
def RepairDistancesWrongFalsely : Prop := repairDistancesRow.holds Try.pinned (OpenSpec.ofChange repairDistancesWrong)

/-- 'boskagelaw22.RepairLaws': WHATEVER THE INPUT: true; the input reads as it did. -/
def repairLawsSpec : ChangeSpec := { name := "repairLaws", fn := fun _ => fun
  | [d1, d2, d3, d4, d5, d6] => { results := [.lit (.bool true)], args := [d1, d2, d3, d4, d5, d6] }
  | _ => none }
def repairLawsRow : OpenClaim := { program := "ytnfggookadgjiaa", sum := "09ec6f21ec6c66fda946601099e8c354096c9995feeeaa9f36d6189b2ea5ab5f", func := "boskage/boskagelaw22.RepairLaws", spec := "repairLaws", unfollowed := true, recurses := true, loops := true, apart := false }
def RepairLawsSaid : Prop := repairLawsRow.holds Try.pinned (OpenSpec.ofChange repairLawsSpec)

/-- ITS FALSE NEIGHBOUR: 'it returns false'. Refute it at one input. -/
def repairLawsWrong : ChangeSpec := { name := "repairLaws", fn := fun _ => fun
  | [d1, d2, d3, d4, d5, d6] => { results := [.lit (.bool false)], args := [d1, d2, d3, d4, d5, d6] }
  | _ => none }
def RepairLawsWrongFalsely : Prop := repairLawsRow.holds Try.pinned (OpenSpec.ofChange repairLawsWrong)

/-- 'boskagelaw22.RepairCosts': WHATEVER THE INPUT: true; the input reads as it did. -/
def repairCostsSpec : ChangeSpec := { name := "repairCosts", fn := fun _ => fun
  | [d1, d2, d3, d4] => { results := [.lit (.bool true)], args := [d1, d2, d3, d4] }
  | _ => none }
def repairCostsRow : OpenClaim := { program := "ytnfggookadgjiaa", sum := "09ec6f21ec6c66fda946601099e8c354096c9995feeeaa9f36d6189b2ea5ab5f", func := "boskage/boskagelaw22.RepairCosts", spec := "repairCosts", unfollowed := true, recurses := true, loops := true, apart := false }
def RepairCostsSaid : Prop := repairCostsRow.holds Try.pinned (OpenSpec.ofChange repairCostsSpec)

/-- ITS FALSE NEIGHBOUR: 'it returns false'. Refute it at one input. -/
def repairCostsWrong : ChangeSpec := { name := "repairCosts", fn := fun _ => fun
  | [d1, d2, d3, d4] => { results := [.lit (.bool false)], args := [d1, d2, d3, d4] }
  | _ => none }
def RepairCostsWrongFalsely : Prop := repairCostsRow.holds Try.pinned (OpenSpec.ofChange repairCostsWrong)

/- THE SECOND FORM. 'bulk': how many values and letters a reading holds, each counted each time it is reached (what is shared counts as often as it is met; a slice's spare places count too). A statement '..UptoSaid' is the law's where the arguments, and the package variables that the reading takes, are together of bulk at most 1048576: NARROWER than '..Said'. Prove '..Said' where nothing that the law and all that it calls make is longer than what came in: it says more and counts as full. Else prove '..UptoSaid'. A law counts once. -/
mutual
def uptoBulk {H : Type} : DataW H → Nat
  | .lit (.string bytes) => bytes.length + 1
  | .lit _ => 1
  | .nil => 1
  | .ptr d => uptoBulk d + 1
  | .slice elems spare => uptoBulkAll elems + uptoBulkAll spare + 1
  | .agg parts => uptoBulkAll parts + 1
  | .iface _ d => uptoBulk d + 1
  | .map entries => uptoBulkEntries entries + 1
  | .held _ => 1
def uptoBulkAll {H : Type} : List (DataW H) → Nat
  | [] => 0
  | d :: r => uptoBulk d + uptoBulkAll r
def uptoBulkEntries {H : Type} : List (Lit × DataW H) → Nat
  | [] => 0
  | x :: r => uptoBulkEntry x + uptoBulkEntries r
def uptoBulkEntry {H : Type} : Lit × DataW H → Nat
  | (.string bytes, d) => bytes.length + uptoBulk d + 1
  | (_, d) => uptoBulk d + 1
 end
def uptoSmall : (H : Type) → List (DataW H) → Bool := fun _ ds => decide (uptoBulkAll ds ≤ 1048576)
def OpenSpec.upto (s : _root_.Go.ChangeSpec) : _root_.Go.OpenSpec := { _root_.Go.OpenSpec.ofChange s with cond := some uptoSmall }

/-- 'boskagelaw22.RepairRelabels', WHERE WHAT IT READS IS OF BULK AT MOST 1048576: true; the input reads as it did. -/
def repairRelabelsUptoRow : OpenClaim := { program := "ytnfggookadgjiaa", sum := "09ec6f21ec6c66fda946601099e8c354096c9995feeeaa9f36d6189b2ea5ab5f", func := "boskage/boskagelaw22.RepairRelabels", spec := "repairRelabels", unfollowed := true, recurses := true, loops := true, apart := false, narrowed := true }
def RepairRelabelsUptoSaid : Prop := repairRelabelsUptoRow.holds Try.pinned (OpenSpec.upto repairRelabelsSpec)

/-- 'boskagelaw22.RepairHoles', WHERE WHAT IT READS IS OF BULK AT MOST 1048576: true; the input reads as it did. -/
def repairHolesUptoRow : OpenClaim := { program := "ytnfggookadgjiaa", sum := "09ec6f21ec6c66fda946601099e8c354096c9995feeeaa9f36d6189b2ea5ab5f", func := "boskage/boskagelaw22.RepairHoles", spec := "repairHoles", unfollowed := true, recurses := true, loops := true, apart := false, narrowed := true }
def RepairHolesUptoSaid : Prop := repairHolesUptoRow.holds Try.pinned (OpenSpec.upto repairHolesSpec)

/-- 'boskagelaw22.RepairDistances', WHERE WHAT IT READS IS OF BULK AT MOST 1048576: true; the input reads as it did. -/
def repairDistancesUptoRow : OpenClaim := { program := "ytnfggookadgjiaa", sum := "09ec6f21ec6c66fda946601099e8c354096c9995feeeaa9f36d6189b2ea5ab5f", func := "boskage/boskagelaw22.RepairDistances", spec := "repairDistances", unfollowed := true, recurses := true, loops := true, apart := false, narrowed := true }
def RepairDistancesUptoSaid : Prop := repairDistancesUptoRow.holds Try.pinned (OpenSpec.upto repairDistancesSpec)

/-- 'boskagelaw22.RepairLaws', WHERE WHAT IT READS IS OF BULK AT MOST 1048576: true; the input reads as it did. -/
def repairLawsUptoRow : OpenClaim := { program := "ytnfggookadgjiaa", sum := "09ec6f21ec6c66fda946601099e8c354096c9995feeeaa9f36d6189b2ea5ab5f", func := "boskage/boskagelaw22.RepairLaws", spec := "repairLaws", unfollowed := true, recurses := true, loops := true, apart := false, narrowed := true }
def RepairLawsUptoSaid : Prop := repairLawsUptoRow.holds Try.pinned (OpenSpec.upto repairLawsSpec)

/-- 'boskagelaw22.RepairCosts', WHERE WHAT IT READS IS OF BULK AT MOST 1048576: true; the input reads as it did. -/
def repairCostsUptoRow : OpenClaim := { program := "ytnfggookadgjiaa", sum := "09ec6f21ec6c66fda946601099e8c354096c9995feeeaa9f36d6189b2ea5ab5f", func := "boskage/boskagelaw22.RepairCosts", spec := "repairCosts", unfollowed := true, recurses := true, loops := true, apart := false, narrowed := true }
def RepairCostsUptoSaid : Prop := repairCostsUptoRow.holds Try.pinned (OpenSpec.upto repairCostsSpec)

end Rows
end Go.Proofs.Ytnfggookadgjiaa
