/-
  NARROWER THAN 'FOR EVERY INPUT', by the rows' own cells (each row's printed sentence says how): HedgeNodes: loops · HedgeParts: loops · HedgeCodes: loops · HedgeForms: loops · HedgeTexts: loops.
  DERIVED. THE GIVEN ROWS OF THIS SEAT. 5 by the template 'for every input the law returns true; each argument reads behind the call as it read before'; 0 by the template 'total and deterministic' (their statements: YtlplohgmoheeaaaTotals.lean).
  GIVEN WITH THE SEED: the statements are not yours to turn. If you find one false, say at which input.
  Laid BY PROGRAM, IN A SANDBOX (cutbox-rows.mjs): the forced cells as the released guide's own fill.sh prints them over the translation 74ed4809506f7b44… (all of the seat's roots in one cut). By AI agents, Wed Nov 11 2026. No macro, syntax, notation, axiom, sorry.
-/
import Derived.Test.YtlplohgmoheeaaaChecked
import GoSem.Claim
import GoSem.ClaimJoined
import GoSem.ClaimMapViews
import Derived.JoinedTies
import Derived.KernelRfl
namespace Go.Proofs.Ytlplohgmoheeaaa
/- THE CELL 'sum', in the pinned program and in every row, IS THE sha256 OF THE DUMP (.gsa) THAT YtlplohgmoheeaaaProg.lean LOADS. Nothing in Lean hashes anything: it is a label: what it is worth is what the hold of that sum in a sandbox is worth. -/
noncomputable def Try.pinned : Pinned := { name := "ytlplohgmoheeaaa", sum := "74ed4809506f7b44b7a55bc8cbd1ad644345814b0de065ce8d1d729bb4228a9c", checked := Try.checked }
namespace Rows
def none {H : Type} : Left H := { results := [], args := [] }

/-- 'boskagelaw02.HedgeNodes': WHATEVER THE INPUT: true; the input reads as it did. -/
def hedgeNodesSpec : ChangeSpec := { name := "hedgeNodes", fn := fun _ => fun
  | [d1, d2] => { results := [.lit (.bool true)], args := [d1, d2] }
  | _ => none }
def hedgeNodesRow : OpenClaim := { program := "ytlplohgmoheeaaa", sum := "74ed4809506f7b44b7a55bc8cbd1ad644345814b0de065ce8d1d729bb4228a9c", func := "boskage/boskagelaw02.HedgeNodes", spec := "hedgeNodes", unfollowed := true, recurses := true, loops := true, apart := false }
def HedgeNodesSaid : Prop := hedgeNodesRow.holds Try.pinned (OpenSpec.ofChange hedgeNodesSpec)

/-- ITS FALSE NEIGHBOUR: 'it returns false'. Refute it at one input. -/
def hedgeNodesWrong : ChangeSpec := { name := "hedgeNodes", fn := fun _ => fun
  | [d1, d2] => { results := [.lit (.bool false)], args := [d1, d2] }
  | _ => none }
def HedgeNodesWrongFalsely : Prop := hedgeNodesRow.holds Try.pinned (OpenSpec.ofChange hedgeNodesWrong)

/-- 'boskagelaw02.HedgeParts': WHATEVER THE INPUT: true; the input reads as it did. -/
def hedgePartsSpec : ChangeSpec := { name := "hedgeParts", fn := fun _ => fun
  | [d1, d2, d3, d4] => { results := [.lit (.bool true)], args := [d1, d2, d3, d4] }
  | _ => none }
def hedgePartsRow : OpenClaim := { program := "ytlplohgmoheeaaa", sum := "74ed4809506f7b44b7a55bc8cbd1ad644345814b0de065ce8d1d729bb4228a9c", func := "boskage/boskagelaw02.HedgeParts", spec := "hedgeParts", unfollowed := true, recurses := true, loops := true, apart := false }
def HedgePartsSaid : Prop := hedgePartsRow.holds Try.pinned (OpenSpec.ofChange hedgePartsSpec)

/-- ITS FALSE NEIGHBOUR: 'it returns false'. Refute it at one input. -/
def hedgePartsWrong : ChangeSpec := { name := "hedgeParts", fn := fun _ => fun
  | [d1, d2, d3, d4] => { results := [.lit (.bool false)], args := [d1, d2, d3, d4] }
  | _ => none }
def HedgePartsWrongFalsely : Prop := hedgePartsRow.holds Try.pinned (OpenSpec.ofChange hedgePartsWrong)

/-- 'boskagelaw02.HedgeCodes': WHATEVER THE INPUT: true; the input reads as it did. -/
def hedgeCodesSpec : ChangeSpec := { name := "hedgeCodes", fn := fun _ => fun
  | [d1, d2, d3] => { results := [.lit (.bool true)], args := [d1, d2, d3] }
  | _ => none }
def hedgeCodesRow : OpenClaim := { program := "ytlplohgmoheeaaa", sum := "74ed4809506f7b44b7a55bc8cbd1ad644345814b0de065ce8d1d729bb4228a9c", func := "boskage/boskagelaw02.HedgeCodes", spec := "hedgeCodes", unfollowed := true, recurses := true, loops := true, apart := false }
def HedgeCodesSaid : Prop := hedgeCodesRow.holds Try.pinned (OpenSpec.ofChange hedgeCodesSpec)

/-- ITS FALSE NEIGHBOUR: 'it returns false'. Refute it at one input. -/
def hedgeCodesWrong : ChangeSpec := { name := "hedgeCodes", fn := fun _ => fun
  | [d1, d2, d3] => { results := [.lit (.bool false)], args := [d1, d2, d3] }
  | _ => none }
def HedgeCodesWrongFalsely : Prop := hedgeCodesRow.holds Try.pinned (OpenSpec.ofChange hedgeCodesWrong)

/-- 'boskagelaw02.HedgeForms': WHATEVER THE INPUT: true; the input reads as it did. -/
def hedgeFormsSpec : ChangeSpec := { name := "hedgeForms", fn := fun _ => fun
  | [d1, d2, d3, d4] => { results := [.lit (.bool true)], args := [d1, d2, d3, d4] }
  | _ => none }
def hedgeFormsRow : OpenClaim := { program := "ytlplohgmoheeaaa", sum := "74ed4809506f7b44b7a55bc8cbd1ad644345814b0de065ce8d1d729bb4228a9c", func := "boskage/boskagelaw02.HedgeForms", spec := "hedgeForms", unfollowed := true, recurses := true, loops := true, apart := false }
def HedgeFormsSaid : Prop := hedgeFormsRow.holds Try.pinned (OpenSpec.ofChange hedgeFormsSpec)

/-- ITS FALSE NEIGHBOUR: 'it returns false'. Refute it at one input. -/
def hedgeFormsWrong : ChangeSpec := { name := "hedgeForms", fn := fun _ => fun
  | [d1, d2, d3, d4] => { results := [.lit (.bool false)], args := [d1, d2, d3, d4] }
  | _ => none }
def HedgeFormsWrongFalsely : Prop := hedgeFormsRow.holds Try.pinned (OpenSpec.ofChange hedgeFormsWrong)

/-- 'boskagelaw02.HedgeTexts': WHATEVER THE INPUT: true; the input reads as it did. -/
def hedgeTextsSpec : ChangeSpec := { name := "hedgeTexts", fn := fun _ => fun
  | [d1, d2, d3, d4] => { results := [.lit (.bool true)], args := [d1, d2, d3, d4] }
  | _ => none }
def hedgeTextsRow : OpenClaim := { program := "ytlplohgmoheeaaa", sum := "74ed4809506f7b44b7a55bc8cbd1ad644345814b0de065ce8d1d729bb4228a9c", func := "boskage/boskagelaw02.HedgeTexts", spec := "hedgeTexts", unfollowed := true, recurses := true, loops := true, apart := false }
def HedgeTextsSaid : Prop := hedgeTextsRow.holds Try.pinned (OpenSpec.ofChange hedgeTextsSpec)

/-- ITS FALSE NEIGHBOUR: 'it returns false'. Refute it at one input. -/
def hedgeTextsWrong : ChangeSpec := { name := "hedgeTexts", fn := fun _ => fun
  | [d1, d2, d3, d4] => { results := [.lit (.bool false)], args := [d1, d2, d3, d4] }
  | _ => none }
def HedgeTextsWrongFalsely : Prop := hedgeTextsRow.holds Try.pinned (OpenSpec.ofChange hedgeTextsWrong)

/- THE SECOND FORM. 'bulk': how many values and letters a reading holds, each counted each time it is reached (what is shared counts as often as it is met; a slice's spare places count too). A statement '..UptoSaid' is the law's where the arguments, and the package variables that the reading takes, are together of bulk at most 1048576: NARROWER than '..Said'. Prove '..Said' where nothing that the law and all that it calls make is longer than what came in: it says more and counts as full. Else prove '..UptoSaid'. A law counts once. -/
mutual
def uptoBulk {H : Type} : DataW H → Nat
  | .lit (.string bytes) => bytes.length + 1
  | .lit _ => 1
  | .nil => 1
  | .ptr d => uptoBulk d + 1
  | .slice elems spare => uptoBulkAll elems + uptoBulkAll spare + 1
  | .agg parts => uptoBulkAll parts + 1
  | .iface _ d => uptoBulk d + 1
  | .map entries => uptoBulkEntries entries + 1
  | .held _ => 1
def uptoBulkAll {H : Type} : List (DataW H) → Nat
  | [] => 0
  | d :: r => uptoBulk d + uptoBulkAll r
def uptoBulkEntries {H : Type} : List (Lit × DataW H) → Nat
  | [] => 0
  | x :: r => uptoBulkEntry x + uptoBulkEntries r
def uptoBulkEntry {H : Type} : Lit × DataW H → Nat
  | (.string bytes, d) => bytes.length + uptoBulk d + 1
  | (_, d) => uptoBulk d + 1
 end
def uptoSmall : (H : Type) → List (DataW H) → Bool := fun _ ds => decide (uptoBulkAll ds ≤ 1048576)
def OpenSpec.upto (s : _root_.Go.ChangeSpec) : _root_.Go.OpenSpec := { _root_.Go.OpenSpec.ofChange s with cond := some uptoSmall }

/-- 'boskagelaw02.HedgeNodes', WHERE WHAT IT READS IS OF BULK AT MOST 1048576: true; the input reads as it did. -/
def hedgeNodesUptoRow : OpenClaim := { program := "ytlplohgmoheeaaa", sum := "74ed4809506f7b44b7a55bc8cbd1ad644345814b0de065ce8d1d729bb4228a9c", func := "boskage/boskagelaw02.HedgeNodes", spec := "hedgeNodes", unfollowed := true, recurses := true, loops := true, apart := false, narrowed := true }
def HedgeNodesUptoSaid : Prop := hedgeNodesUptoRow.holds Try.pinned (OpenSpec.upto hedgeNodesSpec)

/-- 'boskagelaw02.HedgeParts', WHERE WHAT IT READS IS OF BULK AT MOST 1048576: true; the input reads as it did. -/
def hedgePartsUptoRow : OpenClaim := { program := "ytlplohgmoheeaaa", sum := "74ed4809506f7b44b7a55bc8cbd1ad644345814b0de065ce8d1d729bb4228a9c", func := "boskage/boskagelaw02.HedgeParts", spec := "hedgeParts", unfollowed := true, recurses := true, loops := true, apart := false, narrowed := true }
def HedgePartsUptoSaid : Prop := hedgePartsUptoRow.holds Try.pinned (OpenSpec.upto hedgePartsSpec)

/-- 'boskagelaw02.HedgeCodes', WHERE WHAT IT READS IS OF BULK AT MOST 1048576: true; the input reads as it did. -/
def hedgeCodesUptoRow : OpenClaim := { program := "ytlplohgmoheeaaa", sum := "74ed4809506f7b44b7a55bc8cbd1ad644345814b0de065ce8d1d729bb4228a9c", func := "boskage/boskagelaw02.HedgeCodes", spec := "hedgeCodes", unfollowed := true, recurses := true, loops := true, apart := false, narrowed := true }
def HedgeCodesUptoSaid : Prop := hedgeCodesUptoRow.holds Try.pinned (OpenSpec.upto hedgeCodesSpec)

/-- 'boskagelaw02.HedgeForms', WHERE WHAT IT READS IS OF BULK AT MOST 1048576: true; the input reads as it did. -/
def hedgeFormsUptoRow : OpenClaim := { program := "ytlplohgmoheeaaa", sum := "74ed4809506f7b44b7a55bc8cbd1ad644345814b0de065ce8d1d729bb4228a9c", func := "boskage/boskagelaw02.HedgeForms", spec := "hedgeForms", unfollowed := true, recurses := true, loops := true, apart := false, narrowed := true }
def HedgeFormsUptoSaid : Prop := hedgeFormsUptoRow.holds Try.pinned (OpenSpec.upto hedgeFormsSpec)

/-- 'boskagelaw02.HedgeTexts', WHERE WHAT IT READS IS OF BULK AT MOST 1048576: true; the input reads as it did. -/
def hedgeTextsUptoRow : OpenClaim := { program := "ytlplohgmoheeaaa", sum := "74ed4809506f7b44b7a55bc8cbd1ad644345814b0de065ce8d1d729bb4228a9c", func := "boskage/boskagelaw02.HedgeTexts", spec := "hedgeTexts", unfollowed := true, recurses := true, loops := true, apart := false, narrowed := true }
def HedgeTextsUptoSaid : Prop := hedgeTextsUptoRow.holds Try.pinned (OpenSpec.upto hedgeTextsSpec)

end Rows
end Go.Proofs.Ytlplohgmoheeaaa
