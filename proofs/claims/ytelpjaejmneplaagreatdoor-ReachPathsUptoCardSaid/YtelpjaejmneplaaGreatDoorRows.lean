/-
  NARROWER THAN 'FOR EVERY INPUT', by the rows' own cells (each row's printed sentence says how): ReachNeeded: laid · ReachPaths: laid · UnifySteps: laid · UnifySolves: laid · MatchOwn: laid.
  DERIVED. THE GIVEN ROWS OF THIS SEAT. 5 by the template 'for every input the law returns true; each argument reads behind the call as it read before'; 0 by the template 'total and deterministic' (their statements: YtelpjaejmneplaaGreatDoorTotals.lean).
  GIVEN WITH THE SEED: the statements are not yours to turn. If you find one false, say at which input.
  Laid BY PROGRAM, IN A SANDBOX (cutbox-rows.mjs): the forced cells as the released guide's own fill.sh prints them over the translation 549a4538a46619e9… (all of the seat's roots in one cut). By AI agents, Wed Nov 11 2026. No macro, syntax, notation, axiom, sorry.
-/
import Derived.Test.YtelpjaejmneplaaGreatDoorChecked
import GoSem.Claim
import GoSem.ClaimJoined
import GoSem.ClaimMapViews
import Derived.JoinedTies
import Derived.KernelRfl
namespace Go.Proofs.YtelpjaejmneplaaGreatDoor
/- THE CELL 'sum', in the pinned program and in every row, IS THE sha256 OF THE DUMP (.gsa) THAT YtelpjaejmneplaaGreatDoorProg.lean LOADS. Nothing in Lean hashes anything: it is a label: what it is worth is what the hold of that sum in a sandbox is worth. -/
noncomputable def Tryz.pinned : Pinned := { name := "ytelpjaejmneplaagreatdoor", sum := "549a4538a46619e972d083c04131429c0dd492e720412a87a2dfde9e40950ed2", checked := Tryz.checked }
namespace Rows
def none {H : Type} : Left H := { results := [], args := [] }

/- WHAT THE LISTED PACKAGE-LEVEL VARIABLES READ AS WHEN THE CALL BEGINS. Each datum BY PROGRAM (the guide's laid-datum.mjs) off the statement by which the dump's own 'gosem.cut.vars' lays the variable. In a bare row this is a premise. The card (YtelpjaejmneplaaGreatDoorCards.lean) ties it to the program's text. -/
def laid_purlin_term_signs {H : Type} : DataW H := .agg [.lit (.string [61]), .lit (.string [58, 61]), .lit (.string [64]), .lit (.string [43]), .lit (.string [45]), .lit (.string [42]), .lit (.string [60]), .lit (.string [61, 60]), .lit (.string [62]), .lit (.string [62, 61]), .lit (.string [61, 58, 61]), .lit (.string [61, 92, 61])]

/-- 'purlinlaw18.ReachNeeded': WHATEVER THE INPUT: true; the input reads as it did. -/
def reachNeededSpec : ChangeSpec := { name := "reachNeeded", fn := fun _ => fun
  | [d1, d2, d3] => { results := [.lit (.bool true)], args := [d1, d2, d3] }
  | _ => none }
def reachNeededRow : OpenClaim := { program := "ytelpjaejmneplaagreatdoor", sum := "549a4538a46619e972d083c04131429c0dd492e720412a87a2dfde9e40950ed2", func := "purlin/purlinlaw18.ReachNeeded", spec := "reachNeeded", unfollowed := true, recurses := true, named := ["purlin/term.signs"], plainKeys := false, apart := false, laid := [("purlin/term.signs", laid_purlin_term_signs)] }
def ReachNeededSaid : Prop := reachNeededRow.holds Tryz.pinned (OpenSpec.ofChange reachNeededSpec)

/-- ITS FALSE NEIGHBOUR: 'it returns false'. Refute it at one input. -/
def reachNeededWrong : ChangeSpec := { name := "reachNeeded", fn := fun _ => fun
  | [d1, d2, d3] => { results := [.lit (.bool false)], args := [d1, d2, d3] }
  | _ => none }
def ReachNeededWrongFalsely : Prop := reachNeededRow.holds Tryz.pinned (OpenSpec.ofChange reachNeededWrong)

/-- 'purlinlaw18.ReachPaths': WHATEVER THE INPUT: true; the input reads as it did. -/
def reachPathsSpec : ChangeSpec := { name := "reachPaths", fn := fun _ => fun
  | [d1, d2, d3] => { results := [.lit (.bool true)], args := [d1, d2, d3] }
  | _ => none }
def reachPathsRow : OpenClaim := { program := "ytelpjaejmneplaagreatdoor", sum := "549a4538a46619e972d083c04131429c0dd492e720412a87a2dfde9e40950ed2", func := "purlin/purlinlaw18.ReachPaths", spec := "reachPaths", unfollowed := true, recurses := true, named := ["purlin/term.signs"], plainKeys := false, apart := false, laid := [("purlin/term.signs", laid_purlin_term_signs)] }
def ReachPathsSaid : Prop := reachPathsRow.holds Tryz.pinned (OpenSpec.ofChange reachPathsSpec)

/-- ITS FALSE NEIGHBOUR: 'it returns false'. Refute it at one input. -/
def reachPathsWrong : ChangeSpec := { name := "reachPaths", fn := fun _ => fun
  | [d1, d2, d3] => { results := [.lit (.bool false)], args := [d1, d2, d3] }
  | _ => none }
def ReachPathsWrongFalsely : Prop := reachPathsRow.holds Tryz.pinned (OpenSpec.ofChange reachPathsWrong)

/-- 'purlinlaw08.UnifySteps': WHATEVER THE INPUT: true; the input reads as it did. -/
def unifyStepsSpec : ChangeSpec := { name := "unifySteps", fn := fun _ => fun
  | [d1, d2, d3] => { results := [.lit (.bool true)], args := [d1, d2, d3] }
  | _ => none }
def unifyStepsRow : OpenClaim := { program := "ytelpjaejmneplaagreatdoor", sum := "549a4538a46619e972d083c04131429c0dd492e720412a87a2dfde9e40950ed2", func := "purlin/purlinlaw08.UnifySteps", spec := "unifySteps", inPlace := ["maps.clone"], unfollowed := true, recurses := true, named := ["purlin/term.signs"], plainKeys := false, apart := false, laid := [("purlin/term.signs", laid_purlin_term_signs)] }
def UnifyStepsSaid : Prop := unifyStepsRow.holds Tryz.pinned (OpenSpec.ofChange unifyStepsSpec)

/-- ITS FALSE NEIGHBOUR: 'it returns false'. Refute it at one input. -/
def unifyStepsWrong : ChangeSpec := { name := "unifySteps", fn := fun _ => fun
  | [d1, d2, d3] => { results := [.lit (.bool false)], args := [d1, d2, d3] }
  | _ => none }
def UnifyStepsWrongFalsely : Prop := unifyStepsRow.holds Tryz.pinned (OpenSpec.ofChange unifyStepsWrong)

/-- 'purlinlaw08.UnifySolves': WHATEVER THE INPUT: true; the input reads as it did. -/
def unifySolvesSpec : ChangeSpec := { name := "unifySolves", fn := fun _ => fun
  | [d1, d2, d3] => { results := [.lit (.bool true)], args := [d1, d2, d3] }
  | _ => none }
def unifySolvesRow : OpenClaim := { program := "ytelpjaejmneplaagreatdoor", sum := "549a4538a46619e972d083c04131429c0dd492e720412a87a2dfde9e40950ed2", func := "purlin/purlinlaw08.UnifySolves", spec := "unifySolves", inPlace := ["maps.clone"], unfollowed := true, recurses := true, named := ["purlin/term.signs"], plainKeys := false, apart := false, laid := [("purlin/term.signs", laid_purlin_term_signs)] }
def UnifySolvesSaid : Prop := unifySolvesRow.holds Tryz.pinned (OpenSpec.ofChange unifySolvesSpec)

/-- ITS FALSE NEIGHBOUR: 'it returns false'. Refute it at one input. -/
def unifySolvesWrong : ChangeSpec := { name := "unifySolves", fn := fun _ => fun
  | [d1, d2, d3] => { results := [.lit (.bool false)], args := [d1, d2, d3] }
  | _ => none }
def UnifySolvesWrongFalsely : Prop := unifySolvesRow.holds Tryz.pinned (OpenSpec.ofChange unifySolvesWrong)

/-- 'purlinlaw07.MatchOwn': WHATEVER THE INPUT: true; the input reads as it did. -/
def matchOwnSpec : ChangeSpec := { name := "matchOwn", fn := fun _ => fun
  | [d1, d2, d3] => { results := [.lit (.bool true)], args := [d1, d2, d3] }
  | _ => none }
def matchOwnRow : OpenClaim := { program := "ytelpjaejmneplaagreatdoor", sum := "549a4538a46619e972d083c04131429c0dd492e720412a87a2dfde9e40950ed2", func := "purlin/purlinlaw07.MatchOwn", spec := "matchOwn", unfollowed := true, recurses := true, named := ["purlin/term.signs"], plainKeys := false, apart := false, laid := [("purlin/term.signs", laid_purlin_term_signs)] }
def MatchOwnSaid : Prop := matchOwnRow.holds Tryz.pinned (OpenSpec.ofChange matchOwnSpec)

/-- ITS FALSE NEIGHBOUR: 'it returns false'. Refute it at one input. -/
def matchOwnWrong : ChangeSpec := { name := "matchOwn", fn := fun _ => fun
  | [d1, d2, d3] => { results := [.lit (.bool false)], args := [d1, d2, d3] }
  | _ => none }
def MatchOwnWrongFalsely : Prop := matchOwnRow.holds Tryz.pinned (OpenSpec.ofChange matchOwnWrong)

/- THE SECOND FORM. 'bulk': how many values and letters a reading holds, each counted each time it is reached (what is shared counts as often as it is met; a slice's spare places count too). A statement '..UptoSaid' is the law's where the arguments, and the package variables that the reading takes, are together of bulk at most 1048576: NARROWER than '..Said'. Prove '..Said' where nothing that the law and all that it calls make is longer than what came in: it says more and counts as full. Else prove '..UptoSaid'. A law counts once. -/
mutual
def uptoBulk {H : Type} : DataW H → Nat
  | .lit (.string bytes) => bytes.length + 1
  | .lit _ => 1
  | .nil => 1
  | .ptr d => uptoBulk d + 1
  | .slice elems spare => uptoBulkAll elems + uptoBulkAll spare + 1
  | .agg parts => uptoBulkAll parts + 1
  | .iface _ d => uptoBulk d + 1
  | .map entries => uptoBulkEntries entries + 1
  | .held _ => 1
def uptoBulkAll {H : Type} : List (DataW H) → Nat
  | [] => 0
  | d :: r => uptoBulk d + uptoBulkAll r
def uptoBulkEntries {H : Type} : List (Lit × DataW H) → Nat
  | [] => 0
  | x :: r => uptoBulkEntry x + uptoBulkEntries r
def uptoBulkEntry {H : Type} : Lit × DataW H → Nat
  | (.string bytes, d) => bytes.length + uptoBulk d + 1
  | (_, d) => uptoBulk d + 1
 end
def uptoSmall : (H : Type) → List (DataW H) → Bool := fun _ ds => decide (uptoBulkAll ds ≤ 1048576)
def OpenSpec.upto (s : _root_.Go.ChangeSpec) : _root_.Go.OpenSpec := { _root_.Go.OpenSpec.ofChange s with cond := some uptoSmall }

/-- 'purlinlaw18.ReachNeeded', WHERE WHAT IT READS IS OF BULK AT MOST 1048576: true; the input reads as it did. -/
def reachNeededUptoRow : OpenClaim := { program := "ytelpjaejmneplaagreatdoor", sum := "549a4538a46619e972d083c04131429c0dd492e720412a87a2dfde9e40950ed2", func := "purlin/purlinlaw18.ReachNeeded", spec := "reachNeeded", unfollowed := true, recurses := true, named := ["purlin/term.signs"], plainKeys := false, apart := false, laid := [("purlin/term.signs", laid_purlin_term_signs)], narrowed := true }
def ReachNeededUptoSaid : Prop := reachNeededUptoRow.holds Tryz.pinned (OpenSpec.upto reachNeededSpec)

/-- 'purlinlaw18.ReachPaths', WHERE WHAT IT READS IS OF BULK AT MOST 1048576: true; the input reads as it did. -/
def reachPathsUptoRow : OpenClaim := { program := "ytelpjaejmneplaagreatdoor", sum := "549a4538a46619e972d083c04131429c0dd492e720412a87a2dfde9e40950ed2", func := "purlin/purlinlaw18.ReachPaths", spec := "reachPaths", unfollowed := true, recurses := true, named := ["purlin/term.signs"], plainKeys := false, apart := false, laid := [("purlin/term.signs", laid_purlin_term_signs)], narrowed := true }
def ReachPathsUptoSaid : Prop := reachPathsUptoRow.holds Tryz.pinned (OpenSpec.upto reachPathsSpec)

/-- 'purlinlaw08.UnifySteps', WHERE WHAT IT READS IS OF BULK AT MOST 1048576: true; the input reads as it did. -/
def unifyStepsUptoRow : OpenClaim := { program := "ytelpjaejmneplaagreatdoor", sum := "549a4538a46619e972d083c04131429c0dd492e720412a87a2dfde9e40950ed2", func := "purlin/purlinlaw08.UnifySteps", spec := "unifySteps", inPlace := ["maps.clone"], unfollowed := true, recurses := true, named := ["purlin/term.signs"], plainKeys := false, apart := false, laid := [("purlin/term.signs", laid_purlin_term_signs)], narrowed := true }
def UnifyStepsUptoSaid : Prop := unifyStepsUptoRow.holds Tryz.pinned (OpenSpec.upto unifyStepsSpec)

/-- 'purlinlaw08.UnifySolves', WHERE WHAT IT READS IS OF BULK AT MOST 1048576: true; the input reads as it did. -/
def unifySolvesUptoRow : OpenClaim := { program := "ytelpjaejmneplaagreatdoor", sum := "549a4538a46619e972d083c04131429c0dd492e720412a87a2dfde9e40950ed2", func := "purlin/purlinlaw08.UnifySolves", spec := "unifySolves", inPlace := ["maps.clone"], unfollowed := true, recurses := true, named := ["purlin/term.signs"], plainKeys := false, apart := false, laid := [("purlin/term.signs", laid_purlin_term_signs)], narrowed := true }
def UnifySolvesUptoSaid : Prop := unifySolvesUptoRow.holds Tryz.pinned (OpenSpec.upto unifySolvesSpec)

/-- 'purlinlaw07.MatchOwn', WHERE WHAT IT READS IS OF BULK AT MOST 1048576: true; the input reads as it did. -/
def matchOwnUptoRow : OpenClaim := { program := "ytelpjaejmneplaagreatdoor", sum := "549a4538a46619e972d083c04131429c0dd492e720412a87a2dfde9e40950ed2", func := "purlin/purlinlaw07.MatchOwn", spec := "matchOwn", unfollowed := true, recurses := true, named := ["purlin/term.signs"], plainKeys := false, apart := false, laid := [("purlin/term.signs", laid_purlin_term_signs)], narrowed := true }
def MatchOwnUptoSaid : Prop := matchOwnUptoRow.holds Tryz.pinned (OpenSpec.upto matchOwnSpec)

end Rows
end Go.Proofs.YtelpjaejmneplaaGreatDoor
