/-
  NARROWER THAN 'FOR EVERY INPUT', by the rows' own cells (each row's printed sentence says how): ReachWays: laid · ReachGarbage: laid · UnifyBinds: laid.
  DERIVED. THE GIVEN ROWS OF THIS SEAT. 3 by the template 'for every input the law returns true; each argument reads behind the call as it read before'; 0 by the template 'total and deterministic' (their statements: YtelpjaejmneplaaDoorTotals.lean).
  GIVEN WITH THE SEED: the statements are not yours to turn. If you find one false, say at which input.
  Laid BY PROGRAM, IN A SANDBOX (cutbox-rows.mjs): the forced cells as the released guide's own fill.sh prints them over the translation 4f3b4c7dff4d54a4… (all of the seat's roots in one cut). By AI agents, Wed Nov 11 2026. No macro, syntax, notation, axiom, sorry.
-/
import Derived.Test.YtelpjaejmneplaaDoorChecked
import GoSem.Claim
import GoSem.ClaimJoined
import GoSem.ClaimMapViews
import Derived.JoinedTies
import Derived.KernelRfl
namespace Go.Proofs.YtelpjaejmneplaaDoor
/- THE CELL 'sum', in the pinned program and in every row, IS THE sha256 OF THE DUMP (.gsa) THAT YtelpjaejmneplaaDoorProg.lean LOADS. Nothing in Lean hashes anything: it is a label: what it is worth is what the hold of that sum in a sandbox is worth. -/
noncomputable def Tryd.pinned : Pinned := { name := "ytelpjaejmneplaadoor", sum := "4f3b4c7dff4d54a4d340cd2e6c143439b67cb8fab32cbd9d516008fe12585ab8", checked := Tryd.checked }
namespace Rows
def none {H : Type} : Left H := { results := [], args := [] }

/- WHAT THE LISTED PACKAGE-LEVEL VARIABLES READ AS WHEN THE CALL BEGINS. Each datum BY PROGRAM (the guide's laid-datum.mjs) off the statement by which the dump's own 'gosem.cut.vars' lays the variable. In a bare row this is a premise. The card (YtelpjaejmneplaaDoorCards.lean) ties it to the program's text. -/
def laid_purlin_term_signs {H : Type} : DataW H := .agg [.lit (.string [61]), .lit (.string [58, 61]), .lit (.string [64]), .lit (.string [43]), .lit (.string [45]), .lit (.string [42]), .lit (.string [60]), .lit (.string [61, 60]), .lit (.string [62]), .lit (.string [62, 61]), .lit (.string [61, 58, 61]), .lit (.string [61, 92, 61])]

/-- 'purlinlaw18.ReachWays': WHATEVER THE INPUT: true; the input reads as it did. -/
def reachWaysSpec : ChangeSpec := { name := "reachWays", fn := fun _ => fun
  | [d1, d2, d3] => { results := [.lit (.bool true)], args := [d1, d2, d3] }
  | _ => none }
def reachWaysRow : OpenClaim := { program := "ytelpjaejmneplaadoor", sum := "4f3b4c7dff4d54a4d340cd2e6c143439b67cb8fab32cbd9d516008fe12585ab8", func := "purlin/purlinlaw18.ReachWays", spec := "reachWays", unfollowed := true, recurses := true, named := ["purlin/term.signs"], plainKeys := false, apart := false, laid := [("purlin/term.signs", laid_purlin_term_signs)] }
def ReachWaysSaid : Prop := reachWaysRow.holds Tryd.pinned (OpenSpec.ofChange reachWaysSpec)

/-- ITS FALSE NEIGHBOUR: 'it returns false'. Refute it at one input. -/
def reachWaysWrong : ChangeSpec := { name := "reachWays", fn := fun _ => fun
  | [d1, d2, d3] => { results := [.lit (.bool false)], args := [d1, d2, d3] }
  | _ => none }
def ReachWaysWrongFalsely : Prop := reachWaysRow.holds Tryd.pinned (OpenSpec.ofChange reachWaysWrong)

/-- 'purlinlaw18.ReachGarbage': WHATEVER THE INPUT: true; the input reads as it did. -/
def reachGarbageSpec : ChangeSpec := { name := "reachGarbage", fn := fun _ => fun
  | [d1, d2] => { results := [.lit (.bool true)], args := [d1, d2] }
  | _ => none }
def reachGarbageRow : OpenClaim := { program := "ytelpjaejmneplaadoor", sum := "4f3b4c7dff4d54a4d340cd2e6c143439b67cb8fab32cbd9d516008fe12585ab8", func := "purlin/purlinlaw18.ReachGarbage", spec := "reachGarbage", unfollowed := true, recurses := true, named := ["purlin/term.signs"], plainKeys := false, apart := false, laid := [("purlin/term.signs", laid_purlin_term_signs)] }
def ReachGarbageSaid : Prop := reachGarbageRow.holds Tryd.pinned (OpenSpec.ofChange reachGarbageSpec)

/-- ITS FALSE NEIGHBOUR: 'it returns false'. Refute it at one input. -/
def reachGarbageWrong : ChangeSpec := { name := "reachGarbage", fn := fun _ => fun
  | [d1, d2] => { results := [.lit (.bool false)], args := [d1, d2] }
  | _ => none }
def ReachGarbageWrongFalsely : Prop := reachGarbageRow.holds Tryd.pinned (OpenSpec.ofChange reachGarbageWrong)

/-- 'purlinlaw08.UnifyBinds': WHATEVER THE INPUT: true; the input reads as it did. -/
def unifyBindsSpec : ChangeSpec := { name := "unifyBinds", fn := fun _ => fun
  | [d1, d2] => { results := [.lit (.bool true)], args := [d1, d2] }
  | _ => none }
def unifyBindsRow : OpenClaim := { program := "ytelpjaejmneplaadoor", sum := "4f3b4c7dff4d54a4d340cd2e6c143439b67cb8fab32cbd9d516008fe12585ab8", func := "purlin/purlinlaw08.UnifyBinds", spec := "unifyBinds", inPlace := ["maps.clone"], unfollowed := true, recurses := true, named := ["purlin/term.signs"], plainKeys := false, apart := false, laid := [("purlin/term.signs", laid_purlin_term_signs)] }
def UnifyBindsSaid : Prop := unifyBindsRow.holds Tryd.pinned (OpenSpec.ofChange unifyBindsSpec)

/-- ITS FALSE NEIGHBOUR: 'it returns false'. Refute it at one input. -/
def unifyBindsWrong : ChangeSpec := { name := "unifyBinds", fn := fun _ => fun
  | [d1, d2] => { results := [.lit (.bool false)], args := [d1, d2] }
  | _ => none }
def UnifyBindsWrongFalsely : Prop := unifyBindsRow.holds Tryd.pinned (OpenSpec.ofChange unifyBindsWrong)

/- THE SECOND FORM. 'bulk': how many values and letters a reading holds, each counted each time it is reached (what is shared counts as often as it is met; a slice's spare places count too). A statement '..UptoSaid' is the law's where the arguments, and the package variables that the reading takes, are together of bulk at most 1048576: NARROWER than '..Said'. Prove '..Said' where nothing that the law and all that it calls make is longer than what came in: it says more and counts as full. Else prove '..UptoSaid'. A law counts once. -/
mutual
def uptoBulk {H : Type} : DataW H → Nat
  | .lit (.string bytes) => bytes.length + 1
  | .lit _ => 1
  | .nil => 1
  | .ptr d => uptoBulk d + 1
  | .slice elems spare => uptoBulkAll elems + uptoBulkAll spare + 1
  | .agg parts => uptoBulkAll parts + 1
  | .iface _ d => uptoBulk d + 1
  | .map entries => uptoBulkEntries entries + 1
  | .held _ => 1
def uptoBulkAll {H : Type} : List (DataW H) → Nat
  | [] => 0
  | d :: r => uptoBulk d + uptoBulkAll r
def uptoBulkEntries {H : Type} : List (Lit × DataW H) → Nat
  | [] => 0
  | x :: r => uptoBulkEntry x + uptoBulkEntries r
def uptoBulkEntry {H : Type} : Lit × DataW H → Nat
  | (.string bytes, d) => bytes.length + uptoBulk d + 1
  | (_, d) => uptoBulk d + 1
 end
def uptoSmall : (H : Type) → List (DataW H) → Bool := fun _ ds => decide (uptoBulkAll ds ≤ 1048576)
def OpenSpec.upto (s : _root_.Go.ChangeSpec) : _root_.Go.OpenSpec := { _root_.Go.OpenSpec.ofChange s with cond := some uptoSmall }

/-- 'purlinlaw18.ReachWays', WHERE WHAT IT READS IS OF BULK AT MOST 1048576: true; the input reads as it did. -/
def reachWaysUptoRow : OpenClaim := { program := "ytelpjaejmneplaadoor", sum := "4f3b4c7dff4d54a4d340cd2e6c143439b67cb8fab32cbd9d516008fe12585ab8", func := "purlin/purlinlaw18.ReachWays", spec := "reachWays", unfollowed := true, recurses := true, named := ["purlin/term.signs"], plainKeys := false, apart := false, laid := [("purlin/term.signs", laid_purlin_term_signs)], narrowed := true }
def ReachWaysUptoSaid : Prop := reachWaysUptoRow.holds Tryd.pinned (OpenSpec.upto reachWaysSpec)

/-- 'purlinlaw18.ReachGarbage', WHERE WHAT IT READS IS OF BULK AT MOST 1048576: true; the input reads as it did. -/
def reachGarbageUptoRow : OpenClaim := { program := "ytelpjaejmneplaadoor", sum := "4f3b4c7dff4d54a4d340cd2e6c143439b67cb8fab32cbd9d516008fe12585ab8", func := "purlin/purlinlaw18.ReachGarbage", spec := "reachGarbage", unfollowed := true, recurses := true, named := ["purlin/term.signs"], plainKeys := false, apart := false, laid := [("purlin/term.signs", laid_purlin_term_signs)], narrowed := true }
def ReachGarbageUptoSaid : Prop := reachGarbageUptoRow.holds Tryd.pinned (OpenSpec.upto reachGarbageSpec)

/-- 'purlinlaw08.UnifyBinds', WHERE WHAT IT READS IS OF BULK AT MOST 1048576: true; the input reads as it did. -/
def unifyBindsUptoRow : OpenClaim := { program := "ytelpjaejmneplaadoor", sum := "4f3b4c7dff4d54a4d340cd2e6c143439b67cb8fab32cbd9d516008fe12585ab8", func := "purlin/purlinlaw08.UnifyBinds", spec := "unifyBinds", inPlace := ["maps.clone"], unfollowed := true, recurses := true, named := ["purlin/term.signs"], plainKeys := false, apart := false, laid := [("purlin/term.signs", laid_purlin_term_signs)], narrowed := true }
def UnifyBindsUptoSaid : Prop := unifyBindsUptoRow.holds Tryd.pinned (OpenSpec.upto unifyBindsSpec)

end Rows
end Go.Proofs.YtelpjaejmneplaaDoor
