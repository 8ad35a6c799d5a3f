/-
  NARROWER THAN 'FOR EVERY INPUT', by the rows' own cells (each row's printed sentence says how): CostDoubles: laid.
  DERIVED. THE GIVEN ROWS OF THIS SEAT. 1 by the template 'for every input the law returns true; each argument reads behind the call as it read before'; 0 by the template 'total and deterministic' (their statements: YtjnomlphjnnbnaaGreatDoorTotals.lean).
  GIVEN WITH THE SEED: the statements are not yours to turn. If you find one false, say at which input.
  Laid BY PROGRAM, IN A SANDBOX (cutbox-rows.mjs): the forced cells as the released guide's own fill.sh prints them over the translation 09ef06292c3efb0e… (all of the seat's roots in one cut). By AI agents, Wed Nov 11 2026. No macro, syntax, notation, axiom, sorry.
-/
import Derived.Test.YtjnomlphjnnbnaaGreatDoorChecked
import GoSem.Claim
import GoSem.ClaimJoined
import GoSem.ClaimMapViews
import Derived.JoinedTies
import Derived.KernelRfl
namespace Go.Proofs.YtjnomlphjnnbnaaGreatDoor
/- THE CELL 'sum', in the pinned program and in every row, IS THE sha256 OF THE DUMP (.gsa) THAT YtjnomlphjnnbnaaGreatDoorProg.lean LOADS. Nothing in Lean hashes anything: it is a label: what it is worth is what the hold of that sum in a sandbox is worth. -/
noncomputable def Tryz.pinned : Pinned := { name := "ytjnomlphjnnbnaagreatdoor", sum := "09ef06292c3efb0e477488030dd6109e1692345724e9cb778d2dd55626089901", checked := Tryz.checked }
namespace Rows
def none {H : Type} : Left H := { results := [], args := [] }

/- WHAT THE LISTED PACKAGE-LEVEL VARIABLES READ AS WHEN THE CALL BEGINS. Each datum BY PROGRAM (the guide's laid-datum.mjs) off the statement by which the dump's own 'gosem.cut.vars' lays the variable. In a bare row this is a premise. The card (YtjnomlphjnnbnaaGreatDoorCards.lean) ties it to the program's text. -/
def laid_gramarye_name_keywords {H : Type} : DataW H := .agg [.lit (.string [103, 114, 97, 109, 109, 97, 114]), .lit (.string [108, 111, 111, 107]), .lit (.string [115, 121, 110, 99]), .lit (.string [116, 111, 107, 101, 110])]

/-- 'gramaryelaw20.CostDoubles': WHATEVER THE INPUT: true; the input reads as it did. -/
def costDoublesSpec : ChangeSpec := { name := "costDoubles", fn := fun _ => fun
  | [d] => { results := [.lit (.bool true)], args := [d] }
  | _ => none }
def costDoublesRow : OpenClaim := { program := "ytjnomlphjnnbnaagreatdoor", sum := "09ef06292c3efb0e477488030dd6109e1692345724e9cb778d2dd55626089901", func := "gramarye/gramaryelaw20.CostDoubles", spec := "costDoubles", inPlace := ["internal/bytealg.IndexByteString"], unfollowed := true, recurses := true, named := ["gramarye/name.keywords"], apart := false, laid := [("gramarye/name.keywords", laid_gramarye_name_keywords)] }
def CostDoublesSaid : Prop := costDoublesRow.holds Tryz.pinned (OpenSpec.ofChange costDoublesSpec)

/-- ITS FALSE NEIGHBOUR: 'it returns false'. Refute it at one input. -/
def costDoublesWrong : ChangeSpec := { name := "costDoubles", fn := fun _ => fun
  | [d] => { results := [.lit (.bool false)], args := [d] }
  | _ => none }
def CostDoublesWrongFalsely : Prop := costDoublesRow.holds Tryz.pinned (OpenSpec.ofChange costDoublesWrong)

/- THE SECOND FORM. 'bulk': how many values and letters a reading holds, each counted each time it is reached (what is shared counts as often as it is met; a slice's spare places count too). A statement '..UptoSaid' is the law's where the arguments, and the package variables that the reading takes, are together of bulk at most 1048576: NARROWER than '..Said'. Prove '..Said' where nothing that the law and all that it calls make is longer than what came in: it says more and counts as full. Else prove '..UptoSaid'. A law counts once. -/
mutual
def uptoBulk {H : Type} : DataW H → Nat
  | .lit (.string bytes) => bytes.length + 1
  | .lit _ => 1
  | .nil => 1
  | .ptr d => uptoBulk d + 1
  | .slice elems spare => uptoBulkAll elems + uptoBulkAll spare + 1
  | .agg parts => uptoBulkAll parts + 1
  | .iface _ d => uptoBulk d + 1
  | .map entries => uptoBulkEntries entries + 1
  | .held _ => 1
def uptoBulkAll {H : Type} : List (DataW H) → Nat
  | [] => 0
  | d :: r => uptoBulk d + uptoBulkAll r
def uptoBulkEntries {H : Type} : List (Lit × DataW H) → Nat
  | [] => 0
  | x :: r => uptoBulkEntry x + uptoBulkEntries r
def uptoBulkEntry {H : Type} : Lit × DataW H → Nat
  | (.string bytes, d) => bytes.length + uptoBulk d + 1
  | (_, d) => uptoBulk d + 1
 end
def uptoSmall : (H : Type) → List (DataW H) → Bool := fun _ ds => decide (uptoBulkAll ds ≤ 1048576)
def OpenSpec.upto (s : _root_.Go.ChangeSpec) : _root_.Go.OpenSpec := { _root_.Go.OpenSpec.ofChange s with cond := some uptoSmall }

/-- 'gramaryelaw20.CostDoubles', WHERE WHAT IT READS IS OF BULK AT MOST 1048576: true; the input reads as it did. -/
def costDoublesUptoRow : OpenClaim := { program := "ytjnomlphjnnbnaagreatdoor", sum := "09ef06292c3efb0e477488030dd6109e1692345724e9cb778d2dd55626089901", func := "gramarye/gramaryelaw20.CostDoubles", spec := "costDoubles", inPlace := ["internal/bytealg.IndexByteString"], unfollowed := true, recurses := true, named := ["gramarye/name.keywords"], apart := false, laid := [("gramarye/name.keywords", laid_gramarye_name_keywords)], narrowed := true }
def CostDoublesUptoSaid : Prop := costDoublesUptoRow.holds Tryz.pinned (OpenSpec.upto costDoublesSpec)

end Rows
end Go.Proofs.YtjnomlphjnnbnaaGreatDoor
