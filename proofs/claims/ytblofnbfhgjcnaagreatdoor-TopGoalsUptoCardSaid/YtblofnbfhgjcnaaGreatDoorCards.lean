/-
  DERIVED. GIVEN WITH THE SEED: THE CARDS: each row of YtblofnbfhgjcnaaGreatDoorRows.lean that lists a variable, with what it lists TIED to the program's text (the seventh form; the later family's looks); each row that meets fmt, with fmt's text TOLD by the authors' own Lean function (tested against real Go, not proved from fmt's source: count such statements apart). THE CARD IS WHAT COUNTS. Prove the row's statement (the work); the ties are given (YtblofnbfhgjcnaaGreatDoorTie.lean); close each card by the builder's one call (the guide's Derived/Test/ToyasCard.lean, 'card_holds'). Laid BY PROGRAM, IN A SANDBOX (cutbox-door.mjs). By AI agents, Wed Nov 11 2026. No macro, syntax, notation, axiom, sorry.
-/
import Derived.Test.YtblofnbfhgjcnaaGreatDoorRows
import GoSem.ClaimSeven
namespace Go.Proofs.YtblofnbfhgjcnaaGreatDoor
namespace Rows

/-- THE TIED CARD OF 'purlintop.TopGoals'. -/
def topGoalsCard : Claim7 := { stood := { row := topGoalsRow, standIns := [], harness := (true, "216bebe87e385a703663a184027c82bf5aa2a0c2e3b33475422b7ea8b89682ec"), looks := false }, kinds := [], alts := [], laidByText := true, laidKinds := [.widerDeep], laidTests := true, laidLooks := .later }
def TopGoalsCardSaid : Prop := Claim7.holds Tryz.pinned (.plain (OpenSpec.ofChange topGoalsSpec)) topGoalsCard

/-- THE SECOND FORM's CARD OF 'purlintop.TopGoals'. -/
def topGoalsUptoCard : Claim7 := { stood := { row := topGoalsUptoRow, standIns := [], harness := (true, "216bebe87e385a703663a184027c82bf5aa2a0c2e3b33475422b7ea8b89682ec"), looks := false }, kinds := [], alts := [], laidByText := true, laidKinds := [.widerDeep], laidTests := true, laidLooks := .later }
def TopGoalsUptoCardSaid : Prop := Claim7.holds Tryz.pinned (.plain (OpenSpec.upto topGoalsSpec)) topGoalsUptoCard
end Rows
end Go.Proofs.YtblofnbfhgjcnaaGreatDoor
