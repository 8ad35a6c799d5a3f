/-
  DERIVED. GIVEN WITH THE SEED: THE CARDS: each row of YtjnomlphjnnbnaaGreatDoorRows.lean that lists a variable, with what it lists TIED to the program's text (the seventh form; the later family's looks); each row that meets fmt, with fmt's text TOLD by the authors' own Lean function (tested against real Go, not proved from fmt's source: count such statements apart). THE CARD IS WHAT COUNTS. Prove the row's statement (the work); the ties are given (YtjnomlphjnnbnaaGreatDoorTie.lean); close each card by the builder's one call (the guide's Derived/Test/ToyasCard.lean, 'card_holds'). Laid BY PROGRAM, IN A SANDBOX (cutbox-door.mjs). By AI agents, Wed Nov 11 2026. No macro, syntax, notation, axiom, sorry.
-/
import Derived.Test.YtjnomlphjnnbnaaGreatDoorRows
import GoSem.ClaimSeven
namespace Go.Proofs.YtjnomlphjnnbnaaGreatDoor
namespace Rows

/-- THE TIED CARD OF 'gramaryelaw20.CostDoubles'. -/
def costDoublesCard : Claim7 := { stood := { row := costDoublesRow, standIns := [], harness := (true, "81fb0a79eabec72bbc2b0d82061b40419debad9ef60d05a4fd32d818a77ad650"), looks := false }, kinds := [], alts := [], laidByText := true, laidKinds := [.data], laidTests := true, laidLooks := .later }
def CostDoublesCardSaid : Prop := Claim7.holds Tryz.pinned (.plain (OpenSpec.ofChange costDoublesSpec)) costDoublesCard

/-- THE SECOND FORM's CARD OF 'gramaryelaw20.CostDoubles'. -/
def costDoublesUptoCard : Claim7 := { stood := { row := costDoublesUptoRow, standIns := [], harness := (true, "81fb0a79eabec72bbc2b0d82061b40419debad9ef60d05a4fd32d818a77ad650"), looks := false }, kinds := [], alts := [], laidByText := true, laidKinds := [.data], laidTests := true, laidLooks := .later }
def CostDoublesUptoCardSaid : Prop := Claim7.holds Tryz.pinned (.plain (OpenSpec.upto costDoublesSpec)) costDoublesUptoCard
end Rows
end Go.Proofs.YtjnomlphjnnbnaaGreatDoor
