/-
  The abstract machine and the functions of the law, 9: texts put together.
-/
import Derived.Test.YtelpjaejmneplaaDoorReachWaysPkC
set_option linter.unusedVariables false
set_option linter.unusedSimpArgs false
set_option linter.unusedSectionVars false
set_option maxRecDepth 100000
namespace Go.Proofs.YtelpjaejmneplaaDoor.Am
open Go
theorem live18_ran : (run CU.cfg 300 1 6 [] []).map (fun p => p.1) = some (.bool true) := by kernel_rfl
end Go.Proofs.YtelpjaejmneplaaDoor.Am
