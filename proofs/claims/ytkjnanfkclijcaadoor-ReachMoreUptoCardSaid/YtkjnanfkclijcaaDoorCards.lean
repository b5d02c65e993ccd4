/-
  DERIVED. GIVEN WITH THE SEED: THE CARDS: each row of YtkjnanfkclijcaaDoorRows.lean that lists a variable, with what it lists TIED to the program's text (the seventh form; the later family's looks); each row that meets fmt, with fmt's text TOLD by the authors' own Lean function (tested against real Go, not proved from fmt's source: count such statements apart). THE CARD IS WHAT COUNTS. Prove the row's statement (the work); the ties are given (YtkjnanfkclijcaaDoorTie.lean); close each card by the builder's one call (the guide's Derived/Test/ToyasCard.lean, 'card_holds'). Laid BY PROGRAM, IN A SANDBOX (cutbox-door.mjs). By AI agents, Wed Nov 11 2026. No macro, syntax, notation, axiom, sorry.
-/
import Derived.Test.YtkjnanfkclijcaaDoorRows
import GoSem.ClaimSeven
namespace Go.Proofs.YtkjnanfkclijcaaDoor
namespace Rows

/-- THE TIED CARD OF 'purlinlaw08.UnifyEquations'. -/
def unifyEquationsCard : Claim7 := { stood := { row := unifyEquationsRow, standIns := [], harness := (true, "4913e5d529d532705fff3fab1fca54329b3c85b0987bba585f3b1f1ee2012973"), looks := true }, kinds := [], alts := [], laidByText := true, laidKinds := [.widerDeep], laidTests := true, laidLooks := .later }
def UnifyEquationsCardSaid : Prop := Claim7.holds Tryd.pinned (.plain (OpenSpec.ofChange unifyEquationsSpec)) unifyEquationsCard

/-- THE TIED CARD OF 'purlinlaw08.UnifyTurns'. -/
def unifyTurnsCard : Claim7 := { stood := { row := unifyTurnsRow, standIns := [], harness := (true, "4913e5d529d532705fff3fab1fca54329b3c85b0987bba585f3b1f1ee2012973"), looks := true }, kinds := [], alts := [], laidByText := true, laidKinds := [.widerDeep], laidTests := true, laidLooks := .later }
def UnifyTurnsCardSaid : Prop := Claim7.holds Tryd.pinned (.plain (OpenSpec.ofChange unifyTurnsSpec)) unifyTurnsCard

/-- THE TIED CARD OF 'purlinlaw07.MatchHeads'. -/
def matchHeadsCard : Claim7 := { stood := { row := matchHeadsRow, standIns := [], harness := (true, "4913e5d529d532705fff3fab1fca54329b3c85b0987bba585f3b1f1ee2012973"), looks := true }, kinds := [], alts := [], laidByText := true, laidKinds := [.widerDeep], laidTests := true, laidLooks := .later }
def MatchHeadsCardSaid : Prop := Claim7.holds Tryd.pinned (.plain (OpenSpec.ofChange matchHeadsSpec)) matchHeadsCard

/-- THE TIED CARD OF 'purlinlaw07.MatchBodies'. -/
def matchBodiesCard : Claim7 := { stood := { row := matchBodiesRow, standIns := [], harness := (true, "4913e5d529d532705fff3fab1fca54329b3c85b0987bba585f3b1f1ee2012973"), looks := true }, kinds := [], alts := [], laidByText := true, laidKinds := [.widerDeep], laidTests := true, laidLooks := .later }
def MatchBodiesCardSaid : Prop := Claim7.holds Tryd.pinned (.plain (OpenSpec.ofChange matchBodiesSpec)) matchBodiesCard

/-- THE TIED CARD OF 'purlinlaw05.HeapStays'. -/
def heapStaysCard : Claim7 := { stood := { row := heapStaysRow, standIns := [], harness := (true, "4913e5d529d532705fff3fab1fca54329b3c85b0987bba585f3b1f1ee2012973"), looks := true }, kinds := [], alts := [], laidByText := true, laidKinds := [.widerDeep], laidTests := true, laidLooks := .later }
def HeapStaysCardSaid : Prop := Claim7.holds Tryd.pinned (.plain (OpenSpec.ofChange heapStaysSpec)) heapStaysCard

/-- THE TIED CARD OF 'purlinlaw05.HeapFalls'. -/
def heapFallsCard : Claim7 := { stood := { row := heapFallsRow, standIns := [], harness := (true, "4913e5d529d532705fff3fab1fca54329b3c85b0987bba585f3b1f1ee2012973"), looks := true }, kinds := [], alts := [], laidByText := true, laidKinds := [.widerDeep], laidTests := true, laidLooks := .later }
def HeapFallsCardSaid : Prop := Claim7.holds Tryd.pinned (.plain (OpenSpec.ofChange heapFallsSpec)) heapFallsCard

/-- THE TIED CARD OF 'purlinlaw05.HeapOwn'. -/
def heapOwnCard : Claim7 := { stood := { row := heapOwnRow, standIns := [], harness := (true, "4913e5d529d532705fff3fab1fca54329b3c85b0987bba585f3b1f1ee2012973"), looks := true }, kinds := [], alts := [], laidByText := true, laidKinds := [.widerDeep], laidTests := true, laidLooks := .later }
def HeapOwnCardSaid : Prop := Claim7.holds Tryd.pinned (.plain (OpenSpec.ofChange heapOwnSpec)) heapOwnCard

/-- THE TIED CARD OF 'purlinlaw05.HeapResolves'. -/
def heapResolvesCard : Claim7 := { stood := { row := heapResolvesRow, standIns := [], harness := (true, "4913e5d529d532705fff3fab1fca54329b3c85b0987bba585f3b1f1ee2012973"), looks := true }, kinds := [], alts := [], laidByText := true, laidKinds := [.widerDeep], laidTests := true, laidLooks := .later }
def HeapResolvesCardSaid : Prop := Claim7.holds Tryd.pinned (.plain (OpenSpec.ofChange heapResolvesSpec)) heapResolvesCard

/-- THE TIED CARD OF 'purlinlaw05.HeapPlays'. -/
def heapPlaysCard : Claim7 := { stood := { row := heapPlaysRow, standIns := [], harness := (true, "4913e5d529d532705fff3fab1fca54329b3c85b0987bba585f3b1f1ee2012973"), looks := true }, kinds := [], alts := [], laidByText := true, laidKinds := [.widerDeep], laidTests := true, laidLooks := .later }
def HeapPlaysCardSaid : Prop := Claim7.holds Tryd.pinned (.plain (OpenSpec.ofChange heapPlaysSpec)) heapPlaysCard

/-- THE TIED CARD OF 'purlinlaw05.HeapNone'. -/
def heapNoneCard : Claim7 := { stood := { row := heapNoneRow, standIns := [], harness := (true, "4913e5d529d532705fff3fab1fca54329b3c85b0987bba585f3b1f1ee2012973"), looks := true }, kinds := [], alts := [], laidByText := true, laidKinds := [.widerDeep], laidTests := true, laidLooks := .later }
def HeapNoneCardSaid : Prop := Claim7.holds Tryd.pinned (.plain (OpenSpec.ofChange heapNoneSpec)) heapNoneCard

/-- THE TIED CARD OF 'purlinlaw18.ReachMore'. -/
def reachMoreCard : Claim7 := { stood := { row := reachMoreRow, standIns := [], harness := (true, "4913e5d529d532705fff3fab1fca54329b3c85b0987bba585f3b1f1ee2012973"), looks := true }, kinds := [], alts := [], laidByText := true, laidKinds := [.widerDeep], laidTests := true, laidLooks := .later }
def ReachMoreCardSaid : Prop := Claim7.holds Tryd.pinned (.plain (OpenSpec.ofChange reachMoreSpec)) reachMoreCard

/-- THE SECOND FORM's CARD OF 'purlinlaw08.UnifyEquations'. -/
def unifyEquationsUptoCard : Claim7 := { stood := { row := unifyEquationsUptoRow, standIns := [], harness := (true, "4913e5d529d532705fff3fab1fca54329b3c85b0987bba585f3b1f1ee2012973"), looks := true }, kinds := [], alts := [], laidByText := true, laidKinds := [.widerDeep], laidTests := true, laidLooks := .later }
def UnifyEquationsUptoCardSaid : Prop := Claim7.holds Tryd.pinned (.plain (OpenSpec.upto unifyEquationsSpec)) unifyEquationsUptoCard

/-- THE SECOND FORM's CARD OF 'purlinlaw08.UnifyTurns'. -/
def unifyTurnsUptoCard : Claim7 := { stood := { row := unifyTurnsUptoRow, standIns := [], harness := (true, "4913e5d529d532705fff3fab1fca54329b3c85b0987bba585f3b1f1ee2012973"), looks := true }, kinds := [], alts := [], laidByText := true, laidKinds := [.widerDeep], laidTests := true, laidLooks := .later }
def UnifyTurnsUptoCardSaid : Prop := Claim7.holds Tryd.pinned (.plain (OpenSpec.upto unifyTurnsSpec)) unifyTurnsUptoCard

/-- THE SECOND FORM's CARD OF 'purlinlaw07.MatchHeads'. -/
def matchHeadsUptoCard : Claim7 := { stood := { row := matchHeadsUptoRow, standIns := [], harness := (true, "4913e5d529d532705fff3fab1fca54329b3c85b0987bba585f3b1f1ee2012973"), looks := true }, kinds := [], alts := [], laidByText := true, laidKinds := [.widerDeep], laidTests := true, laidLooks := .later }
def MatchHeadsUptoCardSaid : Prop := Claim7.holds Tryd.pinned (.plain (OpenSpec.upto matchHeadsSpec)) matchHeadsUptoCard

/-- THE SECOND FORM's CARD OF 'purlinlaw07.MatchBodies'. -/
def matchBodiesUptoCard : Claim7 := { stood := { row := matchBodiesUptoRow, standIns := [], harness := (true, "4913e5d529d532705fff3fab1fca54329b3c85b0987bba585f3b1f1ee2012973"), looks := true }, kinds := [], alts := [], laidByText := true, laidKinds := [.widerDeep], laidTests := true, laidLooks := .later }
def MatchBodiesUptoCardSaid : Prop := Claim7.holds Tryd.pinned (.plain (OpenSpec.upto matchBodiesSpec)) matchBodiesUptoCard

/-- THE SECOND FORM's CARD OF 'purlinlaw05.HeapStays'. -/
def heapStaysUptoCard : Claim7 := { stood := { row := heapStaysUptoRow, standIns := [], harness := (true, "4913e5d529d532705fff3fab1fca54329b3c85b0987bba585f3b1f1ee2012973"), looks := true }, kinds := [], alts := [], laidByText := true, laidKinds := [.widerDeep], laidTests := true, laidLooks := .later }
def HeapStaysUptoCardSaid : Prop := Claim7.holds Tryd.pinned (.plain (OpenSpec.upto heapStaysSpec)) heapStaysUptoCard

/-- THE SECOND FORM's CARD OF 'purlinlaw05.HeapFalls'. -/
def heapFallsUptoCard : Claim7 := { stood := { row := heapFallsUptoRow, standIns := [], harness := (true, "4913e5d529d532705fff3fab1fca54329b3c85b0987bba585f3b1f1ee2012973"), looks := true }, kinds := [], alts := [], laidByText := true, laidKinds := [.widerDeep], laidTests := true, laidLooks := .later }
def HeapFallsUptoCardSaid : Prop := Claim7.holds Tryd.pinned (.plain (OpenSpec.upto heapFallsSpec)) heapFallsUptoCard

/-- THE SECOND FORM's CARD OF 'purlinlaw05.HeapOwn'. -/
def heapOwnUptoCard : Claim7 := { stood := { row := heapOwnUptoRow, standIns := [], harness := (true, "4913e5d529d532705fff3fab1fca54329b3c85b0987bba585f3b1f1ee2012973"), looks := true }, kinds := [], alts := [], laidByText := true, laidKinds := [.widerDeep], laidTests := true, laidLooks := .later }
def HeapOwnUptoCardSaid : Prop := Claim7.holds Tryd.pinned (.plain (OpenSpec.upto heapOwnSpec)) heapOwnUptoCard

/-- THE SECOND FORM's CARD OF 'purlinlaw05.HeapResolves'. -/
def heapResolvesUptoCard : Claim7 := { stood := { row := heapResolvesUptoRow, standIns := [], harness := (true, "4913e5d529d532705fff3fab1fca54329b3c85b0987bba585f3b1f1ee2012973"), looks := true }, kinds := [], alts := [], laidByText := true, laidKinds := [.widerDeep], laidTests := true, laidLooks := .later }
def HeapResolvesUptoCardSaid : Prop := Claim7.holds Tryd.pinned (.plain (OpenSpec.upto heapResolvesSpec)) heapResolvesUptoCard

/-- THE SECOND FORM's CARD OF 'purlinlaw05.HeapPlays'. -/
def heapPlaysUptoCard : Claim7 := { stood := { row := heapPlaysUptoRow, standIns := [], harness := (true, "4913e5d529d532705fff3fab1fca54329b3c85b0987bba585f3b1f1ee2012973"), looks := true }, kinds := [], alts := [], laidByText := true, laidKinds := [.widerDeep], laidTests := true, laidLooks := .later }
def HeapPlaysUptoCardSaid : Prop := Claim7.holds Tryd.pinned (.plain (OpenSpec.upto heapPlaysSpec)) heapPlaysUptoCard

/-- THE SECOND FORM's CARD OF 'purlinlaw05.HeapNone'. -/
def heapNoneUptoCard : Claim7 := { stood := { row := heapNoneUptoRow, standIns := [], harness := (true, "4913e5d529d532705fff3fab1fca54329b3c85b0987bba585f3b1f1ee2012973"), looks := true }, kinds := [], alts := [], laidByText := true, laidKinds := [.widerDeep], laidTests := true, laidLooks := .later }
def HeapNoneUptoCardSaid : Prop := Claim7.holds Tryd.pinned (.plain (OpenSpec.upto heapNoneSpec)) heapNoneUptoCard

/-- THE SECOND FORM's CARD OF 'purlinlaw18.ReachMore'. -/
def reachMoreUptoCard : Claim7 := { stood := { row := reachMoreUptoRow, standIns := [], harness := (true, "4913e5d529d532705fff3fab1fca54329b3c85b0987bba585f3b1f1ee2012973"), looks := true }, kinds := [], alts := [], laidByText := true, laidKinds := [.widerDeep], laidTests := true, laidLooks := .later }
def ReachMoreUptoCardSaid : Prop := Claim7.holds Tryd.pinned (.plain (OpenSpec.upto reachMoreSpec)) reachMoreUptoCard
end Rows
end Go.Proofs.YtkjnanfkclijcaaDoor
