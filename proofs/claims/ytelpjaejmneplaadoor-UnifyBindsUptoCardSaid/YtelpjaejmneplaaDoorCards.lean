/-
  DERIVED. GIVEN WITH THE SEED: THE CARDS: each row of YtelpjaejmneplaaDoorRows.lean that lists a variable, with what it lists TIED to the program's text (the seventh form; the later family's looks); each row that meets fmt, with fmt's text TOLD by the authors' own Lean function (tested against real Go, not proved from fmt's source: count such statements apart). THE CARD IS WHAT COUNTS. Prove the row's statement (the work); the ties are given (YtelpjaejmneplaaDoorTie.lean); close each card by the builder's one call (the guide's Derived/Test/ToyasCard.lean, 'card_holds'). Laid BY PROGRAM, IN A SANDBOX (cutbox-door.mjs). By AI agents, Wed Nov 11 2026. No macro, syntax, notation, axiom, sorry.
-/
import Derived.Test.YtelpjaejmneplaaDoorRows
import GoSem.ClaimSeven
namespace Go.Proofs.YtelpjaejmneplaaDoor
namespace Rows

/-- THE TIED CARD OF 'purlinlaw18.ReachWays'. -/
def reachWaysCard : Claim7 := { stood := { row := reachWaysRow, standIns := [], harness := (true, "f06ff067e9ddbb91f8bf8203ab9851838db9e3482184d96b4604d5c3d3438263"), looks := true }, kinds := [], alts := [], laidByText := true, laidKinds := [.widerDeep], laidTests := true, laidLooks := .later }
def ReachWaysCardSaid : Prop := Claim7.holds Tryd.pinned (.plain (OpenSpec.ofChange reachWaysSpec)) reachWaysCard

/-- THE TIED CARD OF 'purlinlaw18.ReachGarbage'. -/
def reachGarbageCard : Claim7 := { stood := { row := reachGarbageRow, standIns := [], harness := (true, "f06ff067e9ddbb91f8bf8203ab9851838db9e3482184d96b4604d5c3d3438263"), looks := true }, kinds := [], alts := [], laidByText := true, laidKinds := [.widerDeep], laidTests := true, laidLooks := .later }
def ReachGarbageCardSaid : Prop := Claim7.holds Tryd.pinned (.plain (OpenSpec.ofChange reachGarbageSpec)) reachGarbageCard

/-- THE TIED CARD OF 'purlinlaw08.UnifyBinds'. -/
def unifyBindsCard : Claim7 := { stood := { row := unifyBindsRow, standIns := [], harness := (true, "f06ff067e9ddbb91f8bf8203ab9851838db9e3482184d96b4604d5c3d3438263"), looks := true }, kinds := [], alts := [], laidByText := true, laidKinds := [.widerDeep], laidTests := true, laidLooks := .later }
def UnifyBindsCardSaid : Prop := Claim7.holds Tryd.pinned (.plain (OpenSpec.ofChange unifyBindsSpec)) unifyBindsCard

/-- THE SECOND FORM's CARD OF 'purlinlaw18.ReachWays'. -/
def reachWaysUptoCard : Claim7 := { stood := { row := reachWaysUptoRow, standIns := [], harness := (true, "f06ff067e9ddbb91f8bf8203ab9851838db9e3482184d96b4604d5c3d3438263"), looks := true }, kinds := [], alts := [], laidByText := true, laidKinds := [.widerDeep], laidTests := true, laidLooks := .later }
def ReachWaysUptoCardSaid : Prop := Claim7.holds Tryd.pinned (.plain (OpenSpec.upto reachWaysSpec)) reachWaysUptoCard

/-- THE SECOND FORM's CARD OF 'purlinlaw18.ReachGarbage'. -/
def reachGarbageUptoCard : Claim7 := { stood := { row := reachGarbageUptoRow, standIns := [], harness := (true, "f06ff067e9ddbb91f8bf8203ab9851838db9e3482184d96b4604d5c3d3438263"), looks := true }, kinds := [], alts := [], laidByText := true, laidKinds := [.widerDeep], laidTests := true, laidLooks := .later }
def ReachGarbageUptoCardSaid : Prop := Claim7.holds Tryd.pinned (.plain (OpenSpec.upto reachGarbageSpec)) reachGarbageUptoCard

/-- THE SECOND FORM's CARD OF 'purlinlaw08.UnifyBinds'. -/
def unifyBindsUptoCard : Claim7 := { stood := { row := unifyBindsUptoRow, standIns := [], harness := (true, "f06ff067e9ddbb91f8bf8203ab9851838db9e3482184d96b4604d5c3d3438263"), looks := true }, kinds := [], alts := [], laidByText := true, laidKinds := [.widerDeep], laidTests := true, laidLooks := .later }
def UnifyBindsUptoCardSaid : Prop := Claim7.holds Tryd.pinned (.plain (OpenSpec.upto unifyBindsSpec)) unifyBindsUptoCard
end Rows
end Go.Proofs.YtelpjaejmneplaaDoor
