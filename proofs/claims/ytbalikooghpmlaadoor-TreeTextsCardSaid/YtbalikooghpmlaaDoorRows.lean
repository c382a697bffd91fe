/-
  NARROWER THAN 'FOR EVERY INPUT', by the rows' own cells (each row's printed sentence says how): TreeOrder: loops, laid · TreeAll: laid · TreeForms: loops, laid · TreePlaces: loops, laid · TreePuts: loops, laid · TreeTexts: loops, laid.
  DERIVED. THE GIVEN ROWS OF THIS SEAT. 6 by the template 'for every input the law returns true; each argument reads behind the call as it read before'; 0 by the template 'total and deterministic' (their statements: YtbalikooghpmlaaDoorTotals.lean).
  GIVEN WITH THE SEED: the statements are not yours to turn. If you find one false, say at which input.
  Laid BY PROGRAM, IN A SANDBOX (cutbox-rows.mjs): the forced cells as the released guide's own fill.sh prints them over the translation 8837ba2e58dae7f4… (all of the seat's roots in one cut). By AI agents, Wed Nov 11 2026. No macro, syntax, notation, axiom, sorry.
-/
import Derived.Test.YtbalikooghpmlaaDoorChecked
import GoSem.Claim
import GoSem.ClaimJoined
import GoSem.ClaimMapViews
import Derived.JoinedTies
import Derived.KernelRfl
namespace Go.Proofs.YtbalikooghpmlaaDoor
/- THE CELL 'sum', in the pinned program and in every row, IS THE sha256 OF THE DUMP (.gsa) THAT YtbalikooghpmlaaDoorProg.lean LOADS. Nothing in Lean hashes anything: it is a label: what it is worth is what the hold of that sum in a sandbox is worth. -/
noncomputable def Tryd.pinned : Pinned := { name := "ytbalikooghpmlaadoor", sum := "8837ba2e58dae7f4b934d9d127d5e3aefa021a996cbb202f728f7eaefc55cacc", checked := Tryd.checked }
namespace Rows
def none {H : Type} : Left H := { results := [], args := [] }

/- WHAT THE LISTED PACKAGE-LEVEL VARIABLES READ AS WHEN THE CALL BEGINS. Each datum BY PROGRAM (the guide's laid-datum.mjs) off the statement by which the dump's own 'gosem.cut.vars' lays the variable. In a bare row this is a premise. The card (YtbalikooghpmlaaDoorCards.lean) ties it to the program's text. -/
def laid_boskage_boskagelaw01_al {H : Type} : DataW H := .agg [.slice [.lit (.int .i64 0), .lit (.int .i64 2)] []]

/-- 'boskagelaw01.TreeOrder': WHATEVER THE INPUT: true; the input reads as it did. -/
def treeOrderSpec : ChangeSpec := { name := "treeOrder", fn := fun _ => fun
  | [d1, d2, d3] => { results := [.lit (.bool true)], args := [d1, d2, d3] }
  | _ => none }
def treeOrderRow : OpenClaim := { program := "ytbalikooghpmlaadoor", sum := "8837ba2e58dae7f4b934d9d127d5e3aefa021a996cbb202f728f7eaefc55cacc", func := "boskage/boskagelaw01.TreeOrder", spec := "treeOrder", unfollowed := true, recurses := true, named := ["boskage/boskagelaw01.al"], loops := true, apart := false, laid := [("boskage/boskagelaw01.al", laid_boskage_boskagelaw01_al)] }
def TreeOrderSaid : Prop := treeOrderRow.holds Tryd.pinned (OpenSpec.ofChange treeOrderSpec)

/-- ITS FALSE NEIGHBOUR: 'it returns false'. Refute it at one input. -/
def treeOrderWrong : ChangeSpec := { name := "treeOrder", fn := fun _ => fun
  | [d1, d2, d3] => { results := [.lit (.bool false)], args := [d1, d2, d3] }
  | _ => none }
def TreeOrderWrongFalsely : Prop := treeOrderRow.holds Tryd.pinned (OpenSpec.ofChange treeOrderWrong)

/-- 'boskagelaw01.TreeAll': WHATEVER THE INPUT: true; the input reads as it did. -/
def treeAllSpec : ChangeSpec := { name := "treeAll", fn := fun _ => fun
  | [d1, d2] => { results := [.lit (.bool true)], args := [d1, d2] }
  | _ => none }
def treeAllRow : OpenClaim := { program := "ytbalikooghpmlaadoor", sum := "8837ba2e58dae7f4b934d9d127d5e3aefa021a996cbb202f728f7eaefc55cacc", func := "boskage/boskagelaw01.TreeAll", spec := "treeAll", unfollowed := true, recurses := true, named := ["boskage/boskagelaw01.al"], apart := false, laid := [("boskage/boskagelaw01.al", laid_boskage_boskagelaw01_al)] }
def TreeAllSaid : Prop := treeAllRow.holds Tryd.pinned (OpenSpec.ofChange treeAllSpec)

/-- ITS FALSE NEIGHBOUR: 'it returns false'. Refute it at one input. -/
def treeAllWrong : ChangeSpec := { name := "treeAll", fn := fun _ => fun
  | [d1, d2] => { results := [.lit (.bool false)], args := [d1, d2] }
  | _ => none }
def TreeAllWrongFalsely : Prop := treeAllRow.holds Tryd.pinned (OpenSpec.ofChange treeAllWrong)

/-- 'boskagelaw01.TreeForms': WHATEVER THE INPUT: true; the input reads as it did. -/
def treeFormsSpec : ChangeSpec := { name := "treeForms", fn := fun _ => fun
  | [d1, d2, d3, d4] => { results := [.lit (.bool true)], args := [d1, d2, d3, d4] }
  | _ => none }
def treeFormsRow : OpenClaim := { program := "ytbalikooghpmlaadoor", sum := "8837ba2e58dae7f4b934d9d127d5e3aefa021a996cbb202f728f7eaefc55cacc", func := "boskage/boskagelaw01.TreeForms", spec := "treeForms", unfollowed := true, recurses := true, named := ["boskage/boskagelaw01.al"], loops := true, apart := false, laid := [("boskage/boskagelaw01.al", laid_boskage_boskagelaw01_al)] }
def TreeFormsSaid : Prop := treeFormsRow.holds Tryd.pinned (OpenSpec.ofChange treeFormsSpec)

/-- ITS FALSE NEIGHBOUR: 'it returns false'. Refute it at one input. -/
def treeFormsWrong : ChangeSpec := { name := "treeForms", fn := fun _ => fun
  | [d1, d2, d3, d4] => { results := [.lit (.bool false)], args := [d1, d2, d3, d4] }
  | _ => none }
def TreeFormsWrongFalsely : Prop := treeFormsRow.holds Tryd.pinned (OpenSpec.ofChange treeFormsWrong)

/-- 'boskagelaw01.TreePlaces': WHATEVER THE INPUT: true; the input reads as it did. -/
def treePlacesSpec : ChangeSpec := { name := "treePlaces", fn := fun _ => fun
  | [d1, d2, d3, d4] => { results := [.lit (.bool true)], args := [d1, d2, d3, d4] }
  | _ => none }
def treePlacesRow : OpenClaim := { program := "ytbalikooghpmlaadoor", sum := "8837ba2e58dae7f4b934d9d127d5e3aefa021a996cbb202f728f7eaefc55cacc", func := "boskage/boskagelaw01.TreePlaces", spec := "treePlaces", unfollowed := true, recurses := true, named := ["boskage/boskagelaw01.al"], loops := true, apart := false, laid := [("boskage/boskagelaw01.al", laid_boskage_boskagelaw01_al)] }
def TreePlacesSaid : Prop := treePlacesRow.holds Tryd.pinned (OpenSpec.ofChange treePlacesSpec)

/-- ITS FALSE NEIGHBOUR: 'it returns false'. Refute it at one input. -/
def treePlacesWrong : ChangeSpec := { name := "treePlaces", fn := fun _ => fun
  | [d1, d2, d3, d4] => { results := [.lit (.bool false)], args := [d1, d2, d3, d4] }
  | _ => none }
def TreePlacesWrongFalsely : Prop := treePlacesRow.holds Tryd.pinned (OpenSpec.ofChange treePlacesWrong)

/-- 'boskagelaw01.TreePuts': WHATEVER THE INPUT: true; the input reads as it did. -/
def treePutsSpec : ChangeSpec := { name := "treePuts", fn := fun _ => fun
  | [d1, d2, d3, d4] => { results := [.lit (.bool true)], args := [d1, d2, d3, d4] }
  | _ => none }
def treePutsRow : OpenClaim := { program := "ytbalikooghpmlaadoor", sum := "8837ba2e58dae7f4b934d9d127d5e3aefa021a996cbb202f728f7eaefc55cacc", func := "boskage/boskagelaw01.TreePuts", spec := "treePuts", unfollowed := true, recurses := true, named := ["boskage/boskagelaw01.al"], loops := true, apart := false, laid := [("boskage/boskagelaw01.al", laid_boskage_boskagelaw01_al)] }
def TreePutsSaid : Prop := treePutsRow.holds Tryd.pinned (OpenSpec.ofChange treePutsSpec)

/-- ITS FALSE NEIGHBOUR: 'it returns false'. Refute it at one input. -/
def treePutsWrong : ChangeSpec := { name := "treePuts", fn := fun _ => fun
  | [d1, d2, d3, d4] => { results := [.lit (.bool false)], args := [d1, d2, d3, d4] }
  | _ => none }
def TreePutsWrongFalsely : Prop := treePutsRow.holds Tryd.pinned (OpenSpec.ofChange treePutsWrong)

/-- 'boskagelaw01.TreeTexts': WHATEVER THE INPUT: true; the input reads as it did. -/
def treeTextsSpec : ChangeSpec := { name := "treeTexts", fn := fun _ => fun
  | [d1, d2, d3, d4] => { results := [.lit (.bool true)], args := [d1, d2, d3, d4] }
  | _ => none }
def treeTextsRow : OpenClaim := { program := "ytbalikooghpmlaadoor", sum := "8837ba2e58dae7f4b934d9d127d5e3aefa021a996cbb202f728f7eaefc55cacc", func := "boskage/boskagelaw01.TreeTexts", spec := "treeTexts", unfollowed := true, recurses := true, named := ["boskage/boskagelaw01.al"], loops := true, apart := false, laid := [("boskage/boskagelaw01.al", laid_boskage_boskagelaw01_al)] }
def TreeTextsSaid : Prop := treeTextsRow.holds Tryd.pinned (OpenSpec.ofChange treeTextsSpec)

/-- ITS FALSE NEIGHBOUR: 'it returns false'. Refute it at one input. -/
def treeTextsWrong : ChangeSpec := { name := "treeTexts", fn := fun _ => fun
  | [d1, d2, d3, d4] => { results := [.lit (.bool false)], args := [d1, d2, d3, d4] }
  | _ => none }
def TreeTextsWrongFalsely : Prop := treeTextsRow.holds Tryd.pinned (OpenSpec.ofChange treeTextsWrong)

/- THE SECOND FORM. 'bulk': how many values and letters a reading holds, each counted each time it is reached (what is shared counts as often as it is met; a slice's spare places count too). A statement '..UptoSaid' is the law's where the arguments, and the package variables that the reading takes, are together of bulk at most 1048576: NARROWER than '..Said'. Prove '..Said' where nothing that the law and all that it calls make is longer than what came in: it says more and counts as full. Else prove '..UptoSaid'. A law counts once. -/
mutual
def uptoBulk {H : Type} : DataW H → Nat
  | .lit (.string bytes) => bytes.length + 1
  | .lit _ => 1
  | .nil => 1
  | .ptr d => uptoBulk d + 1
  | .slice elems spare => uptoBulkAll elems + uptoBulkAll spare + 1
  | .agg parts => uptoBulkAll parts + 1
  | .iface _ d => uptoBulk d + 1
  | .map entries => uptoBulkEntries entries + 1
  | .held _ => 1
def uptoBulkAll {H : Type} : List (DataW H) → Nat
  | [] => 0
  | d :: r => uptoBulk d + uptoBulkAll r
def uptoBulkEntries {H : Type} : List (Lit × DataW H) → Nat
  | [] => 0
  | x :: r => uptoBulkEntry x + uptoBulkEntries r
def uptoBulkEntry {H : Type} : Lit × DataW H → Nat
  | (.string bytes, d) => bytes.length + uptoBulk d + 1
  | (_, d) => uptoBulk d + 1
 end
def uptoSmall : (H : Type) → List (DataW H) → Bool := fun _ ds => decide (uptoBulkAll ds ≤ 1048576)
def OpenSpec.upto (s : _root_.Go.ChangeSpec) : _root_.Go.OpenSpec := { _root_.Go.OpenSpec.ofChange s with cond := some uptoSmall }

/-- 'boskagelaw01.TreeOrder', WHERE WHAT IT READS IS OF BULK AT MOST 1048576: true; the input reads as it did. -/
def treeOrderUptoRow : OpenClaim := { program := "ytbalikooghpmlaadoor", sum := "8837ba2e58dae7f4b934d9d127d5e3aefa021a996cbb202f728f7eaefc55cacc", func := "boskage/boskagelaw01.TreeOrder", spec := "treeOrder", unfollowed := true, recurses := true, named := ["boskage/boskagelaw01.al"], loops := true, apart := false, laid := [("boskage/boskagelaw01.al", laid_boskage_boskagelaw01_al)], narrowed := true }
def TreeOrderUptoSaid : Prop := treeOrderUptoRow.holds Tryd.pinned (OpenSpec.upto treeOrderSpec)

/-- 'boskagelaw01.TreeAll', WHERE WHAT IT READS IS OF BULK AT MOST 1048576: true; the input reads as it did. -/
def treeAllUptoRow : OpenClaim := { program := "ytbalikooghpmlaadoor", sum := "8837ba2e58dae7f4b934d9d127d5e3aefa021a996cbb202f728f7eaefc55cacc", func := "boskage/boskagelaw01.TreeAll", spec := "treeAll", unfollowed := true, recurses := true, named := ["boskage/boskagelaw01.al"], apart := false, laid := [("boskage/boskagelaw01.al", laid_boskage_boskagelaw01_al)], narrowed := true }
def TreeAllUptoSaid : Prop := treeAllUptoRow.holds Tryd.pinned (OpenSpec.upto treeAllSpec)

/-- 'boskagelaw01.TreeForms', WHERE WHAT IT READS IS OF BULK AT MOST 1048576: true; the input reads as it did. -/
def treeFormsUptoRow : OpenClaim := { program := "ytbalikooghpmlaadoor", sum := "8837ba2e58dae7f4b934d9d127d5e3aefa021a996cbb202f728f7eaefc55cacc", func := "boskage/boskagelaw01.TreeForms", spec := "treeForms", unfollowed := true, recurses := true, named := ["boskage/boskagelaw01.al"], loops := true, apart := false, laid := [("boskage/boskagelaw01.al", laid_boskage_boskagelaw01_al)], narrowed := true }
def TreeFormsUptoSaid : Prop := treeFormsUptoRow.holds Tryd.pinned (OpenSpec.upto treeFormsSpec)

/-- 'boskagelaw01.TreePlaces', WHERE WHAT IT READS IS OF BULK AT MOST 1048576: true; the input reads as it did. -/
def treePlacesUptoRow : OpenClaim := { program := "ytbalikooghpmlaadoor", sum := "8837ba2e58dae7f4b934d9d127d5e3aefa021a996cbb202f728f7eaefc55cacc", func := "boskage/boskagelaw01.TreePlaces", spec := "treePlaces", unfollowed := true, recurses := true, named := ["boskage/boskagelaw01.al"], loops := true, apart := false, laid := [("boskage/boskagelaw01.al", laid_boskage_boskagelaw01_al)], narrowed := true }
def TreePlacesUptoSaid : Prop := treePlacesUptoRow.holds Tryd.pinned (OpenSpec.upto treePlacesSpec)

/-- 'boskagelaw01.TreePuts', WHERE WHAT IT READS IS OF BULK AT MOST 1048576: true; the input reads as it did. -/
def treePutsUptoRow : OpenClaim := { program := "ytbalikooghpmlaadoor", sum := "8837ba2e58dae7f4b934d9d127d5e3aefa021a996cbb202f728f7eaefc55cacc", func := "boskage/boskagelaw01.TreePuts", spec := "treePuts", unfollowed := true, recurses := true, named := ["boskage/boskagelaw01.al"], loops := true, apart := false, laid := [("boskage/boskagelaw01.al", laid_boskage_boskagelaw01_al)], narrowed := true }
def TreePutsUptoSaid : Prop := treePutsUptoRow.holds Tryd.pinned (OpenSpec.upto treePutsSpec)

/-- 'boskagelaw01.TreeTexts', WHERE WHAT IT READS IS OF BULK AT MOST 1048576: true; the input reads as it did. -/
def treeTextsUptoRow : OpenClaim := { program := "ytbalikooghpmlaadoor", sum := "8837ba2e58dae7f4b934d9d127d5e3aefa021a996cbb202f728f7eaefc55cacc", func := "boskage/boskagelaw01.TreeTexts", spec := "treeTexts", unfollowed := true, recurses := true, named := ["boskage/boskagelaw01.al"], loops := true, apart := false, laid := [("boskage/boskagelaw01.al", laid_boskage_boskagelaw01_al)], narrowed := true }
def TreeTextsUptoSaid : Prop := treeTextsUptoRow.holds Tryd.pinned (OpenSpec.upto treeTextsSpec)

end Rows
end Go.Proofs.YtbalikooghpmlaaDoor
