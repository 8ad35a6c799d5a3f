/-
  DERIVED. GIVEN WITH THE SEED: THE CARDS: each row of YtldkompnddnojaaGreatDoorRows.lean that lists a variable, with what it lists TIED to the program's text (the seventh form; the later family's looks); each row that meets fmt, with fmt's text TOLD by the authors' own Lean function (tested against real Go, not proved from fmt's source: count such statements apart). THE CARD IS WHAT COUNTS. Prove the row's statement (the work); the ties are given (YtldkompnddnojaaGreatDoorTie.lean); close each card by the builder's one call (the guide's Derived/Test/ToyasCard.lean, 'card_holds'). Laid BY PROGRAM, IN A SANDBOX (cutbox-door.mjs). By AI agents, Wed Nov 11 2026. No macro, syntax, notation, axiom, sorry.
-/
import Derived.Test.YtldkompnddnojaaGreatDoorRows
import GoSem.ClaimSeven
namespace Go.Proofs.YtldkompnddnojaaGreatDoor
namespace Rows

/-- THE TIED CARD OF 'gramaryelaw25.DiagRises'. -/
def diagRisesCard : Claim7 := { stood := { row := diagRisesRow, standIns := [], harness := (true, "800a44c7a1005e3e12af047c60a8b35bc5610aef76959bca97bd1b14e5fc2bde"), looks := false }, kinds := [], alts := [], laidByText := true, laidKinds := [.data], laidTests := true, laidLooks := .later }
def DiagRisesCardSaid : Prop := Claim7.holds Tryz.pinned (.plain (OpenSpec.ofChange diagRisesSpec)) diagRisesCard

/-- THE SECOND FORM's CARD OF 'gramaryelaw25.DiagRises'. -/
def diagRisesUptoCard : Claim7 := { stood := { row := diagRisesUptoRow, standIns := [], harness := (true, "800a44c7a1005e3e12af047c60a8b35bc5610aef76959bca97bd1b14e5fc2bde"), looks := false }, kinds := [], alts := [], laidByText := true, laidKinds := [.data], laidTests := true, laidLooks := .later }
def DiagRisesUptoCardSaid : Prop := Claim7.holds Tryz.pinned (.plain (OpenSpec.upto diagRisesSpec)) diagRisesUptoCard
end Rows
end Go.Proofs.YtldkompnddnojaaGreatDoor
