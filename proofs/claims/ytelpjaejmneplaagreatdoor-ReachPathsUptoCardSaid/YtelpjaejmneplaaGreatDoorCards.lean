/-
  DERIVED. GIVEN WITH THE SEED: THE CARDS: each row of YtelpjaejmneplaaGreatDoorRows.lean that lists a variable, with what it lists TIED to the program's text (the seventh form; the later family's looks); each row that meets fmt, with fmt's text TOLD by the authors' own Lean function (tested against real Go, not proved from fmt's source: count such statements apart). THE CARD IS WHAT COUNTS. Prove the row's statement (the work); the ties are given (YtelpjaejmneplaaGreatDoorTie.lean); close each card by the builder's one call (the guide's Derived/Test/ToyasCard.lean, 'card_holds'). Laid BY PROGRAM, IN A SANDBOX (cutbox-door.mjs). By AI agents, Wed Nov 11 2026. No macro, syntax, notation, axiom, sorry.
-/
import Derived.Test.YtelpjaejmneplaaGreatDoorRows
import GoSem.ClaimSeven
namespace Go.Proofs.YtelpjaejmneplaaGreatDoor
namespace Rows

/-- THE TIED CARD OF 'purlinlaw18.ReachNeeded'. -/
def reachNeededCard : Claim7 := { stood := { row := reachNeededRow, standIns := [], harness := (true, "f8ecb1f5b24cc733de0656d08a3e9f3e1567d2bd4326fb7beaa7d5161b449445"), looks := true }, kinds := [], alts := [], laidByText := true, laidKinds := [.widerDeep], laidTests := true, laidLooks := .later }
def ReachNeededCardSaid : Prop := Claim7.holds Tryz.pinned (.plain (OpenSpec.ofChange reachNeededSpec)) reachNeededCard

/-- THE TIED CARD OF 'purlinlaw18.ReachPaths'. -/
def reachPathsCard : Claim7 := { stood := { row := reachPathsRow, standIns := [], harness := (true, "f8ecb1f5b24cc733de0656d08a3e9f3e1567d2bd4326fb7beaa7d5161b449445"), looks := true }, kinds := [], alts := [], laidByText := true, laidKinds := [.widerDeep], laidTests := true, laidLooks := .later }
def ReachPathsCardSaid : Prop := Claim7.holds Tryz.pinned (.plain (OpenSpec.ofChange reachPathsSpec)) reachPathsCard

/-- THE TIED CARD OF 'purlinlaw08.UnifySteps'. -/
def unifyStepsCard : Claim7 := { stood := { row := unifyStepsRow, standIns := [], harness := (true, "f8ecb1f5b24cc733de0656d08a3e9f3e1567d2bd4326fb7beaa7d5161b449445"), looks := true }, kinds := [], alts := [], laidByText := true, laidKinds := [.widerDeep], laidTests := true, laidLooks := .later }
def UnifyStepsCardSaid : Prop := Claim7.holds Tryz.pinned (.plain (OpenSpec.ofChange unifyStepsSpec)) unifyStepsCard

/-- THE TIED CARD OF 'purlinlaw08.UnifySolves'. -/
def unifySolvesCard : Claim7 := { stood := { row := unifySolvesRow, standIns := [], harness := (true, "f8ecb1f5b24cc733de0656d08a3e9f3e1567d2bd4326fb7beaa7d5161b449445"), looks := true }, kinds := [], alts := [], laidByText := true, laidKinds := [.widerDeep], laidTests := true, laidLooks := .later }
def UnifySolvesCardSaid : Prop := Claim7.holds Tryz.pinned (.plain (OpenSpec.ofChange unifySolvesSpec)) unifySolvesCard

/-- THE TIED CARD OF 'purlinlaw07.MatchOwn'. -/
def matchOwnCard : Claim7 := { stood := { row := matchOwnRow, standIns := [], harness := (true, "f8ecb1f5b24cc733de0656d08a3e9f3e1567d2bd4326fb7beaa7d5161b449445"), looks := true }, kinds := [], alts := [], laidByText := true, laidKinds := [.widerDeep], laidTests := true, laidLooks := .later }
def MatchOwnCardSaid : Prop := Claim7.holds Tryz.pinned (.plain (OpenSpec.ofChange matchOwnSpec)) matchOwnCard

/-- THE SECOND FORM's CARD OF 'purlinlaw18.ReachNeeded'. -/
def reachNeededUptoCard : Claim7 := { stood := { row := reachNeededUptoRow, standIns := [], harness := (true, "f8ecb1f5b24cc733de0656d08a3e9f3e1567d2bd4326fb7beaa7d5161b449445"), looks := true }, kinds := [], alts := [], laidByText := true, laidKinds := [.widerDeep], laidTests := true, laidLooks := .later }
def ReachNeededUptoCardSaid : Prop := Claim7.holds Tryz.pinned (.plain (OpenSpec.upto reachNeededSpec)) reachNeededUptoCard

/-- THE SECOND FORM's CARD OF 'purlinlaw18.ReachPaths'. -/
def reachPathsUptoCard : Claim7 := { stood := { row := reachPathsUptoRow, standIns := [], harness := (true, "f8ecb1f5b24cc733de0656d08a3e9f3e1567d2bd4326fb7beaa7d5161b449445"), looks := true }, kinds := [], alts := [], laidByText := true, laidKinds := [.widerDeep], laidTests := true, laidLooks := .later }
def ReachPathsUptoCardSaid : Prop := Claim7.holds Tryz.pinned (.plain (OpenSpec.upto reachPathsSpec)) reachPathsUptoCard

/-- THE SECOND FORM's CARD OF 'purlinlaw08.UnifySteps'. -/
def unifyStepsUptoCard : Claim7 := { stood := { row := unifyStepsUptoRow, standIns := [], harness := (true, "f8ecb1f5b24cc733de0656d08a3e9f3e1567d2bd4326fb7beaa7d5161b449445"), looks := true }, kinds := [], alts := [], laidByText := true, laidKinds := [.widerDeep], laidTests := true, laidLooks := .later }
def UnifyStepsUptoCardSaid : Prop := Claim7.holds Tryz.pinned (.plain (OpenSpec.upto unifyStepsSpec)) unifyStepsUptoCard

/-- THE SECOND FORM's CARD OF 'purlinlaw08.UnifySolves'. -/
def unifySolvesUptoCard : Claim7 := { stood := { row := unifySolvesUptoRow, standIns := [], harness := (true, "f8ecb1f5b24cc733de0656d08a3e9f3e1567d2bd4326fb7beaa7d5161b449445"), looks := true }, kinds := [], alts := [], laidByText := true, laidKinds := [.widerDeep], laidTests := true, laidLooks := .later }
def UnifySolvesUptoCardSaid : Prop := Claim7.holds Tryz.pinned (.plain (OpenSpec.upto unifySolvesSpec)) unifySolvesUptoCard

/-- THE SECOND FORM's CARD OF 'purlinlaw07.MatchOwn'. -/
def matchOwnUptoCard : Claim7 := { stood := { row := matchOwnUptoRow, standIns := [], harness := (true, "f8ecb1f5b24cc733de0656d08a3e9f3e1567d2bd4326fb7beaa7d5161b449445"), looks := true }, kinds := [], alts := [], laidByText := true, laidKinds := [.widerDeep], laidTests := true, laidLooks := .later }
def MatchOwnUptoCardSaid : Prop := Claim7.holds Tryz.pinned (.plain (OpenSpec.upto matchOwnSpec)) matchOwnUptoCard
end Rows
end Go.Proofs.YtelpjaejmneplaaGreatDoor
