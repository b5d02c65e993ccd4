/-
  The abstract machine and the functions of the law, 9: texts put together.
-/
import Derived.Test.YtelpjaejmneplaaGreatDoorReachPathsPkC
set_option linter.unusedVariables false
set_option linter.unusedSimpArgs false
set_option linter.unusedSectionVars false
set_option maxRecDepth 100000
namespace Go.Proofs.YtelpjaejmneplaaGreatDoor.Am
open Go
theorem live18_ran : (run CU.cfg 300 1 14 [] []).map (fun p => p.1) = some (.bool true) := by kernel_rfl
end Go.Proofs.YtelpjaejmneplaaGreatDoor.Am
