/-
  NARROWER THAN 'FOR EVERY INPUT', by the rows' own cells (each row's printed sentence says how): UnifyEquations: laid · UnifyTurns: laid · MatchHeads: laid · MatchBodies: laid · HeapStays: laid · HeapFalls: laid · HeapOwn: laid · HeapResolves: laid · HeapPlays: laid · HeapNone: laid · ReachMore: laid.
  DERIVED. THE GIVEN ROWS OF THIS SEAT. 11 by the template 'for every input the law returns true; each argument reads behind the call as it read before'; 0 by the template 'total and deterministic' (their statements: YtkjnanfkclijcaaDoorTotals.lean).
  GIVEN WITH THE SEED: the statements are not yours to turn. If you find one false, say at which input.
  Laid BY PROGRAM, IN A SANDBOX (cutbox-rows.mjs): the forced cells as the released guide's own fill.sh prints them over the translation f5ddcf0316947fd4… (all of the seat's roots in one cut). By AI agents, Wed Nov 11 2026. No macro, syntax, notation, axiom, sorry.
-/
import Derived.Test.YtkjnanfkclijcaaDoorChecked
import GoSem.Claim
import GoSem.ClaimJoined
import GoSem.ClaimMapViews
import Derived.JoinedTies
import Derived.KernelRfl
namespace Go.Proofs.YtkjnanfkclijcaaDoor
/- THE CELL 'sum', in the pinned program and in every row, IS THE sha256 OF THE DUMP (.gsa) THAT YtkjnanfkclijcaaDoorProg.lean LOADS. Nothing in Lean hashes anything: it is a label: what it is worth is what the hold of that sum in a sandbox is worth. -/
noncomputable def Tryd.pinned : Pinned := { name := "ytkjnanfkclijcaadoor", sum := "f5ddcf0316947fd41a7e3731b147d6c06aa3586bfcc652bd4aa7830914a31fb7", checked := Tryd.checked }
namespace Rows
def none {H : Type} : Left H := { results := [], args := [] }

/- WHAT THE LISTED PACKAGE-LEVEL VARIABLES READ AS WHEN THE CALL BEGINS. Each datum BY PROGRAM (the guide's laid-datum.mjs) off the statement by which the dump's own 'gosem.cut.vars' lays the variable. In a bare row this is a premise. The card (YtkjnanfkclijcaaDoorCards.lean) ties it to the program's text. -/
def laid_purlin_term_signs {H : Type} : DataW H := .agg [.lit (.string [61]), .lit (.string [58, 61]), .lit (.string [64]), .lit (.string [43]), .lit (.string [45]), .lit (.string [42]), .lit (.string [60]), .lit (.string [61, 60]), .lit (.string [62]), .lit (.string [62, 61]), .lit (.string [61, 58, 61]), .lit (.string [61, 92, 61])]

/-- 'purlinlaw08.UnifyEquations': WHATEVER THE INPUT: true; the input reads as it did. -/
def unifyEquationsSpec : ChangeSpec := { name := "unifyEquations", fn := fun _ => fun
  | [d] => { results := [.lit (.bool true)], args := [d] }
  | _ => none }
def unifyEquationsRow : OpenClaim := { program := "ytkjnanfkclijcaadoor", sum := "f5ddcf0316947fd41a7e3731b147d6c06aa3586bfcc652bd4aa7830914a31fb7", func := "purlin/purlinlaw08.UnifyEquations", spec := "unifyEquations", inPlace := ["maps.clone"], unfollowed := true, recurses := true, named := ["purlin/term.signs"], plainKeys := false, apart := false, laid := [("purlin/term.signs", laid_purlin_term_signs)] }
def UnifyEquationsSaid : Prop := unifyEquationsRow.holds Tryd.pinned (OpenSpec.ofChange unifyEquationsSpec)

/-- ITS FALSE NEIGHBOUR: 'it returns false'. Refute it at one input. -/
def unifyEquationsWrong : ChangeSpec := { name := "unifyEquations", fn := fun _ => fun
  | [d] => { results := [.lit (.bool false)], args := [d] }
  | _ => none }
def UnifyEquationsWrongFalsely : Prop := unifyEquationsRow.holds Tryd.pinned (OpenSpec.ofChange unifyEquationsWrong)

/-- 'purlinlaw08.UnifyTurns': WHATEVER THE INPUT: true; the input reads as it did. -/
def unifyTurnsSpec : ChangeSpec := { name := "unifyTurns", fn := fun _ => fun
  | [d1, d2, d3] => { results := [.lit (.bool true)], args := [d1, d2, d3] }
  | _ => none }
def unifyTurnsRow : OpenClaim := { program := "ytkjnanfkclijcaadoor", sum := "f5ddcf0316947fd41a7e3731b147d6c06aa3586bfcc652bd4aa7830914a31fb7", func := "purlin/purlinlaw08.UnifyTurns", spec := "unifyTurns", inPlace := ["maps.clone"], unfollowed := true, recurses := true, named := ["purlin/term.signs"], plainKeys := false, apart := false, laid := [("purlin/term.signs", laid_purlin_term_signs)] }
def UnifyTurnsSaid : Prop := unifyTurnsRow.holds Tryd.pinned (OpenSpec.ofChange unifyTurnsSpec)

/-- ITS FALSE NEIGHBOUR: 'it returns false'. Refute it at one input. -/
def unifyTurnsWrong : ChangeSpec := { name := "unifyTurns", fn := fun _ => fun
  | [d1, d2, d3] => { results := [.lit (.bool false)], args := [d1, d2, d3] }
  | _ => none }
def UnifyTurnsWrongFalsely : Prop := unifyTurnsRow.holds Tryd.pinned (OpenSpec.ofChange unifyTurnsWrong)

/-- 'purlinlaw07.MatchHeads': WHATEVER THE INPUT: true; the input reads as it did. -/
def matchHeadsSpec : ChangeSpec := { name := "matchHeads", fn := fun _ => fun
  | [d1, d2, d3] => { results := [.lit (.bool true)], args := [d1, d2, d3] }
  | _ => none }
def matchHeadsRow : OpenClaim := { program := "ytkjnanfkclijcaadoor", sum := "f5ddcf0316947fd41a7e3731b147d6c06aa3586bfcc652bd4aa7830914a31fb7", func := "purlin/purlinlaw07.MatchHeads", spec := "matchHeads", unfollowed := true, recurses := true, named := ["purlin/term.signs"], plainKeys := false, apart := false, laid := [("purlin/term.signs", laid_purlin_term_signs)] }
def MatchHeadsSaid : Prop := matchHeadsRow.holds Tryd.pinned (OpenSpec.ofChange matchHeadsSpec)

/-- ITS FALSE NEIGHBOUR: 'it returns false'. Refute it at one input. -/
def matchHeadsWrong : ChangeSpec := { name := "matchHeads", fn := fun _ => fun
  | [d1, d2, d3] => { results := [.lit (.bool false)], args := [d1, d2, d3] }
  | _ => none }
def MatchHeadsWrongFalsely : Prop := matchHeadsRow.holds Tryd.pinned (OpenSpec.ofChange matchHeadsWrong)

/-- 'purlinlaw07.MatchBodies': WHATEVER THE INPUT: true; the input reads as it did. -/
def matchBodiesSpec : ChangeSpec := { name := "matchBodies", fn := fun _ => fun
  | [d1, d2, d3] => { results := [.lit (.bool true)], args := [d1, d2, d3] }
  | _ => none }
def matchBodiesRow : OpenClaim := { program := "ytkjnanfkclijcaadoor", sum := "f5ddcf0316947fd41a7e3731b147d6c06aa3586bfcc652bd4aa7830914a31fb7", func := "purlin/purlinlaw07.MatchBodies", spec := "matchBodies", unfollowed := true, recurses := true, named := ["purlin/term.signs"], plainKeys := false, apart := false, laid := [("purlin/term.signs", laid_purlin_term_signs)] }
def MatchBodiesSaid : Prop := matchBodiesRow.holds Tryd.pinned (OpenSpec.ofChange matchBodiesSpec)

/-- ITS FALSE NEIGHBOUR: 'it returns false'. Refute it at one input. -/
def matchBodiesWrong : ChangeSpec := { name := "matchBodies", fn := fun _ => fun
  | [d1, d2, d3] => { results := [.lit (.bool false)], args := [d1, d2, d3] }
  | _ => none }
def MatchBodiesWrongFalsely : Prop := matchBodiesRow.holds Tryd.pinned (OpenSpec.ofChange matchBodiesWrong)

/-- 'purlinlaw05.HeapStays': WHATEVER THE INPUT: true; the input reads as it did. -/
def heapStaysSpec : ChangeSpec := { name := "heapStays", fn := fun _ => fun
  | [d1, d2] => { results := [.lit (.bool true)], args := [d1, d2] }
  | _ => none }
def heapStaysRow : OpenClaim := { program := "ytkjnanfkclijcaadoor", sum := "f5ddcf0316947fd41a7e3731b147d6c06aa3586bfcc652bd4aa7830914a31fb7", func := "purlin/purlinlaw05.HeapStays", spec := "heapStays", unfollowed := true, recurses := true, named := ["purlin/term.signs"], plainKeys := false, apart := false, laid := [("purlin/term.signs", laid_purlin_term_signs)] }
def HeapStaysSaid : Prop := heapStaysRow.holds Tryd.pinned (OpenSpec.ofChange heapStaysSpec)

/-- ITS FALSE NEIGHBOUR: 'it returns false'. Refute it at one input. -/
def heapStaysWrong : ChangeSpec := { name := "heapStays", fn := fun _ => fun
  | [d1, d2] => { results := [.lit (.bool false)], args := [d1, d2] }
  | _ => none }
def HeapStaysWrongFalsely : Prop := heapStaysRow.holds Tryd.pinned (OpenSpec.ofChange heapStaysWrong)

/-- 'purlinlaw05.HeapFalls': WHATEVER THE INPUT: true; the input reads as it did. -/
def heapFallsSpec : ChangeSpec := { name := "heapFalls", fn := fun _ => fun
  | [d1, d2] => { results := [.lit (.bool true)], args := [d1, d2] }
  | _ => none }
def heapFallsRow : OpenClaim := { program := "ytkjnanfkclijcaadoor", sum := "f5ddcf0316947fd41a7e3731b147d6c06aa3586bfcc652bd4aa7830914a31fb7", func := "purlin/purlinlaw05.HeapFalls", spec := "heapFalls", unfollowed := true, recurses := true, named := ["purlin/term.signs"], plainKeys := false, apart := false, laid := [("purlin/term.signs", laid_purlin_term_signs)] }
def HeapFallsSaid : Prop := heapFallsRow.holds Tryd.pinned (OpenSpec.ofChange heapFallsSpec)

/-- ITS FALSE NEIGHBOUR: 'it returns false'. Refute it at one input. -/
def heapFallsWrong : ChangeSpec := { name := "heapFalls", fn := fun _ => fun
  | [d1, d2] => { results := [.lit (.bool false)], args := [d1, d2] }
  | _ => none }
def HeapFallsWrongFalsely : Prop := heapFallsRow.holds Tryd.pinned (OpenSpec.ofChange heapFallsWrong)

/-- 'purlinlaw05.HeapOwn': WHATEVER THE INPUT: true; the input reads as it did. -/
def heapOwnSpec : ChangeSpec := { name := "heapOwn", fn := fun _ => fun
  | [d1, d2] => { results := [.lit (.bool true)], args := [d1, d2] }
  | _ => none }
def heapOwnRow : OpenClaim := { program := "ytkjnanfkclijcaadoor", sum := "f5ddcf0316947fd41a7e3731b147d6c06aa3586bfcc652bd4aa7830914a31fb7", func := "purlin/purlinlaw05.HeapOwn", spec := "heapOwn", unfollowed := true, recurses := true, named := ["purlin/term.signs"], plainKeys := false, apart := false, laid := [("purlin/term.signs", laid_purlin_term_signs)] }
def HeapOwnSaid : Prop := heapOwnRow.holds Tryd.pinned (OpenSpec.ofChange heapOwnSpec)

/-- ITS FALSE NEIGHBOUR: 'it returns false'. Refute it at one input. -/
def heapOwnWrong : ChangeSpec := { name := "heapOwn", fn := fun _ => fun
  | [d1, d2] => { results := [.lit (.bool false)], args := [d1, d2] }
  | _ => none }
def HeapOwnWrongFalsely : Prop := heapOwnRow.holds Tryd.pinned (OpenSpec.ofChange heapOwnWrong)

/-- 'purlinlaw05.HeapResolves': WHATEVER THE INPUT: true; the input reads as it did. -/
def heapResolvesSpec : ChangeSpec := { name := "heapResolves", fn := fun _ => fun
  | [d1, d2] => { results := [.lit (.bool true)], args := [d1, d2] }
  | _ => none }
def heapResolvesRow : OpenClaim := { program := "ytkjnanfkclijcaadoor", sum := "f5ddcf0316947fd41a7e3731b147d6c06aa3586bfcc652bd4aa7830914a31fb7", func := "purlin/purlinlaw05.HeapResolves", spec := "heapResolves", unfollowed := true, recurses := true, named := ["purlin/term.signs"], plainKeys := false, apart := false, laid := [("purlin/term.signs", laid_purlin_term_signs)] }
def HeapResolvesSaid : Prop := heapResolvesRow.holds Tryd.pinned (OpenSpec.ofChange heapResolvesSpec)

/-- ITS FALSE NEIGHBOUR: 'it returns false'. Refute it at one input. -/
def heapResolvesWrong : ChangeSpec := { name := "heapResolves", fn := fun _ => fun
  | [d1, d2] => { results := [.lit (.bool false)], args := [d1, d2] }
  | _ => none }
def HeapResolvesWrongFalsely : Prop := heapResolvesRow.holds Tryd.pinned (OpenSpec.ofChange heapResolvesWrong)

/-- 'purlinlaw05.HeapPlays': WHATEVER THE INPUT: true; the input reads as it did. -/
def heapPlaysSpec : ChangeSpec := { name := "heapPlays", fn := fun _ => fun
  | [d1, d2, d3] => { results := [.lit (.bool true)], args := [d1, d2, d3] }
  | _ => none }
def heapPlaysRow : OpenClaim := { program := "ytkjnanfkclijcaadoor", sum := "f5ddcf0316947fd41a7e3731b147d6c06aa3586bfcc652bd4aa7830914a31fb7", func := "purlin/purlinlaw05.HeapPlays", spec := "heapPlays", inPlace := ["maps.clone"], unfollowed := true, recurses := true, named := ["purlin/term.signs"], plainKeys := false, apart := false, laid := [("purlin/term.signs", laid_purlin_term_signs)] }
def HeapPlaysSaid : Prop := heapPlaysRow.holds Tryd.pinned (OpenSpec.ofChange heapPlaysSpec)

/-- ITS FALSE NEIGHBOUR: 'it returns false'. Refute it at one input. -/
def heapPlaysWrong : ChangeSpec := { name := "heapPlays", fn := fun _ => fun
  | [d1, d2, d3] => { results := [.lit (.bool false)], args := [d1, d2, d3] }
  | _ => none }
def HeapPlaysWrongFalsely : Prop := heapPlaysRow.holds Tryd.pinned (OpenSpec.ofChange heapPlaysWrong)

/-- 'purlinlaw05.HeapNone': WHATEVER THE INPUT: true; the input reads as it did. -/
def heapNoneSpec : ChangeSpec := { name := "heapNone", fn := fun _ => fun
  | [d1, d2] => { results := [.lit (.bool true)], args := [d1, d2] }
  | _ => none }
def heapNoneRow : OpenClaim := { program := "ytkjnanfkclijcaadoor", sum := "f5ddcf0316947fd41a7e3731b147d6c06aa3586bfcc652bd4aa7830914a31fb7", func := "purlin/purlinlaw05.HeapNone", spec := "heapNone", inPlace := ["maps.clone"], unfollowed := true, recurses := true, named := ["purlin/term.signs"], plainKeys := false, apart := false, laid := [("purlin/term.signs", laid_purlin_term_signs)] }
def HeapNoneSaid : Prop := heapNoneRow.holds Tryd.pinned (OpenSpec.ofChange heapNoneSpec)

/-- ITS FALSE NEIGHBOUR: 'it returns false'. Refute it at one input. -/
def heapNoneWrong : ChangeSpec := { name := "heapNone", fn := fun _ => fun
  | [d1, d2] => { results := [.lit (.bool false)], args := [d1, d2] }
  | _ => none }
def HeapNoneWrongFalsely : Prop := heapNoneRow.holds Tryd.pinned (OpenSpec.ofChange heapNoneWrong)

/-- 'purlinlaw18.ReachMore': WHATEVER THE INPUT: true; the input reads as it did. -/
def reachMoreSpec : ChangeSpec := { name := "reachMore", fn := fun _ => fun
  | [d1, d2, d3] => { results := [.lit (.bool true)], args := [d1, d2, d3] }
  | _ => none }
def reachMoreRow : OpenClaim := { program := "ytkjnanfkclijcaadoor", sum := "f5ddcf0316947fd41a7e3731b147d6c06aa3586bfcc652bd4aa7830914a31fb7", func := "purlin/purlinlaw18.ReachMore", spec := "reachMore", unfollowed := true, recurses := true, named := ["purlin/term.signs"], plainKeys := false, apart := false, laid := [("purlin/term.signs", laid_purlin_term_signs)] }
def ReachMoreSaid : Prop := reachMoreRow.holds Tryd.pinned (OpenSpec.ofChange reachMoreSpec)

/-- ITS FALSE NEIGHBOUR: 'it returns false'. Refute it at one input. -/
def reachMoreWrong : ChangeSpec := { name := "reachMore", fn := fun _ => fun
  | [d1, d2, d3] => { results := [.lit (.bool false)], args := [d1, d2, d3] }
  | _ => none }
def ReachMoreWrongFalsely : Prop := reachMoreRow.holds Tryd.pinned (OpenSpec.ofChange reachMoreWrong)

/- THE SECOND FORM. 'bulk': how many values and letters a reading holds, each counted each time it is reached (what is shared counts as often as it is met; a slice's spare places count too). A statement '..UptoSaid' is the law's where the arguments, and the package variables that the reading takes, are together of bulk at most 1048576: NARROWER than '..Said'. Prove '..Said' where nothing that the law and all that it calls make is longer than what came in: it says more and counts as full. Else prove '..UptoSaid'. A law counts once. -/
mutual
def uptoBulk {H : Type} : DataW H → Nat
  | .lit (.string bytes) => bytes.length + 1
  | .lit _ => 1
  | .nil => 1
  | .ptr d => uptoBulk d + 1
  | .slice elems spare => uptoBulkAll elems + uptoBulkAll spare + 1
  | .agg parts => uptoBulkAll parts + 1
  | .iface _ d => uptoBulk d + 1
  | .map entries => uptoBulkEntries entries + 1
  | .held _ => 1
def uptoBulkAll {H : Type} : List (DataW H) → Nat
  | [] => 0
  | d :: r => uptoBulk d + uptoBulkAll r
def uptoBulkEntries {H : Type} : List (Lit × DataW H) → Nat
  | [] => 0
  | x :: r => uptoBulkEntry x + uptoBulkEntries r
def uptoBulkEntry {H : Type} : Lit × DataW H → Nat
  | (.string bytes, d) => bytes.length + uptoBulk d + 1
  | (_, d) => uptoBulk d + 1
 end
def uptoSmall : (H : Type) → List (DataW H) → Bool := fun _ ds => decide (uptoBulkAll ds ≤ 1048576)
def OpenSpec.upto (s : _root_.Go.ChangeSpec) : _root_.Go.OpenSpec := { _root_.Go.OpenSpec.ofChange s with cond := some uptoSmall }

/-- 'purlinlaw08.UnifyEquations', WHERE WHAT IT READS IS OF BULK AT MOST 1048576: true; the input reads as it did. -/
def unifyEquationsUptoRow : OpenClaim := { program := "ytkjnanfkclijcaadoor", sum := "f5ddcf0316947fd41a7e3731b147d6c06aa3586bfcc652bd4aa7830914a31fb7", func := "purlin/purlinlaw08.UnifyEquations", spec := "unifyEquations", inPlace := ["maps.clone"], unfollowed := true, recurses := true, named := ["purlin/term.signs"], plainKeys := false, apart := false, laid := [("purlin/term.signs", laid_purlin_term_signs)], narrowed := true }
def UnifyEquationsUptoSaid : Prop := unifyEquationsUptoRow.holds Tryd.pinned (OpenSpec.upto unifyEquationsSpec)

/-- 'purlinlaw08.UnifyTurns', WHERE WHAT IT READS IS OF BULK AT MOST 1048576: true; the input reads as it did. -/
def unifyTurnsUptoRow : OpenClaim := { program := "ytkjnanfkclijcaadoor", sum := "f5ddcf0316947fd41a7e3731b147d6c06aa3586bfcc652bd4aa7830914a31fb7", func := "purlin/purlinlaw08.UnifyTurns", spec := "unifyTurns", inPlace := ["maps.clone"], unfollowed := true, recurses := true, named := ["purlin/term.signs"], plainKeys := false, apart := false, laid := [("purlin/term.signs", laid_purlin_term_signs)], narrowed := true }
def UnifyTurnsUptoSaid : Prop := unifyTurnsUptoRow.holds Tryd.pinned (OpenSpec.upto unifyTurnsSpec)

/-- 'purlinlaw07.MatchHeads', WHERE WHAT IT READS IS OF BULK AT MOST 1048576: true; the input reads as it did. -/
def matchHeadsUptoRow : OpenClaim := { program := "ytkjnanfkclijcaadoor", sum := "f5ddcf0316947fd41a7e3731b147d6c06aa3586bfcc652bd4aa7830914a31fb7", func := "purlin/purlinlaw07.MatchHeads", spec := "matchHeads", unfollowed := true, recurses := true, named := ["purlin/term.signs"], plainKeys := false, apart := false, laid := [("purlin/term.signs", laid_purlin_term_signs)], narrowed := true }
def MatchHeadsUptoSaid : Prop := matchHeadsUptoRow.holds Tryd.pinned (OpenSpec.upto matchHeadsSpec)

/-- 'purlinlaw07.MatchBodies', WHERE WHAT IT READS IS OF BULK AT MOST 1048576: true; the input reads as it did. -/
def matchBodiesUptoRow : OpenClaim := { program := "ytkjnanfkclijcaadoor", sum := "f5ddcf0316947fd41a7e3731b147d6c06aa3586bfcc652bd4aa7830914a31fb7", func := "purlin/purlinlaw07.MatchBodies", spec := "matchBodies", unfollowed := true, recurses := true, named := ["purlin/term.signs"], plainKeys := false, apart := false, laid := [("purlin/term.signs", laid_purlin_term_signs)], narrowed := true }
def MatchBodiesUptoSaid : Prop := matchBodiesUptoRow.holds Tryd.pinned (OpenSpec.upto matchBodiesSpec)

/-- 'purlinlaw05.HeapStays', WHERE WHAT IT READS IS OF BULK AT MOST 1048576: true; the input reads as it did. -/
def heapStaysUptoRow : OpenClaim := { program := "ytkjnanfkclijcaadoor", sum := "f5ddcf0316947fd41a7e3731b147d6c06aa3586bfcc652bd4aa7830914a31fb7", func := "purlin/purlinlaw05.HeapStays", spec := "heapStays", unfollowed := true, recurses := true, named := ["purlin/term.signs"], plainKeys := false, apart := false, laid := [("purlin/term.signs", laid_purlin_term_signs)], narrowed := true }
def HeapStaysUptoSaid : Prop := heapStaysUptoRow.holds Tryd.pinned (OpenSpec.upto heapStaysSpec)

/-- 'purlinlaw05.HeapFalls', WHERE WHAT IT READS IS OF BULK AT MOST 1048576: true; the input reads as it did. -/
def heapFallsUptoRow : OpenClaim := { program := "ytkjnanfkclijcaadoor", sum := "f5ddcf0316947fd41a7e3731b147d6c06aa3586bfcc652bd4aa7830914a31fb7", func := "purlin/purlinlaw05.HeapFalls", spec := "heapFalls", unfollowed := true, recurses := true, named := ["purlin/term.signs"], plainKeys := false, apart := false, laid := [("purlin/term.signs", laid_purlin_term_signs)], narrowed := true }
def HeapFallsUptoSaid : Prop := heapFallsUptoRow.holds Tryd.pinned (OpenSpec.upto heapFallsSpec)

/-- 'purlinlaw05.HeapOwn', WHERE WHAT IT READS IS OF BULK AT MOST 1048576: true; the input reads as it did. -/
def heapOwnUptoRow : OpenClaim := { program := "ytkjnanfkclijcaadoor", sum := "f5ddcf0316947fd41a7e3731b147d6c06aa3586bfcc652bd4aa7830914a31fb7", func := "purlin/purlinlaw05.HeapOwn", spec := "heapOwn", unfollowed := true, recurses := true, named := ["purlin/term.signs"], plainKeys := false, apart := false, laid := [("purlin/term.signs", laid_purlin_term_signs)], narrowed := true }
def HeapOwnUptoSaid : Prop := heapOwnUptoRow.holds Tryd.pinned (OpenSpec.upto heapOwnSpec)

/-- 'purlinlaw05.HeapResolves', WHERE WHAT IT READS IS OF BULK AT MOST 1048576: true; the input reads as it did. -/
def heapResolvesUptoRow : OpenClaim := { program := "ytkjnanfkclijcaadoor", sum := "f5ddcf0316947fd41a7e3731b147d6c06aa3586bfcc652bd4aa7830914a31fb7", func := "purlin/purlinlaw05.HeapResolves", spec := "heapResolves", unfollowed := true, recurses := true, named := ["purlin/term.signs"], plainKeys := false, apart := false, laid := [("purlin/term.signs", laid_purlin_term_signs)], narrowed := true }
def HeapResolvesUptoSaid : Prop := heapResolvesUptoRow.holds Tryd.pinned (OpenSpec.upto heapResolvesSpec)

/-- 'purlinlaw05.HeapPlays', WHERE WHAT IT READS IS OF BULK AT MOST 1048576: true; the input reads as it did. -/
def heapPlaysUptoRow : OpenClaim := { program := "ytkjnanfkclijcaadoor", sum := "f5ddcf0316947fd41a7e3731b147d6c06aa3586bfcc652bd4aa7830914a31fb7", func := "purlin/purlinlaw05.HeapPlays", spec := "heapPlays", inPlace := ["maps.clone"], unfollowed := true, recurses := true, named := ["purlin/term.signs"], plainKeys := false, apart := false, laid := [("purlin/term.signs", laid_purlin_term_signs)], narrowed := true }
def HeapPlaysUptoSaid : Prop := heapPlaysUptoRow.holds Tryd.pinned (OpenSpec.upto heapPlaysSpec)

/-- 'purlinlaw05.HeapNone', WHERE WHAT IT READS IS OF BULK AT MOST 1048576: true; the input reads as it did. -/
def heapNoneUptoRow : OpenClaim := { program := "ytkjnanfkclijcaadoor", sum := "f5ddcf0316947fd41a7e3731b147d6c06aa3586bfcc652bd4aa7830914a31fb7", func := "purlin/purlinlaw05.HeapNone", spec := "heapNone", inPlace := ["maps.clone"], unfollowed := true, recurses := true, named := ["purlin/term.signs"], plainKeys := false, apart := false, laid := [("purlin/term.signs", laid_purlin_term_signs)], narrowed := true }
def HeapNoneUptoSaid : Prop := heapNoneUptoRow.holds Tryd.pinned (OpenSpec.upto heapNoneSpec)

/-- 'purlinlaw18.ReachMore', WHERE WHAT IT READS IS OF BULK AT MOST 1048576: true; the input reads as it did. -/
def reachMoreUptoRow : OpenClaim := { program := "ytkjnanfkclijcaadoor", sum := "f5ddcf0316947fd41a7e3731b147d6c06aa3586bfcc652bd4aa7830914a31fb7", func := "purlin/purlinlaw18.ReachMore", spec := "reachMore", unfollowed := true, recurses := true, named := ["purlin/term.signs"], plainKeys := false, apart := false, laid := [("purlin/term.signs", laid_purlin_term_signs)], narrowed := true }
def ReachMoreUptoSaid : Prop := reachMoreUptoRow.holds Tryd.pinned (OpenSpec.upto reachMoreSpec)

end Rows
end Go.Proofs.YtkjnanfkclijcaaDoor
