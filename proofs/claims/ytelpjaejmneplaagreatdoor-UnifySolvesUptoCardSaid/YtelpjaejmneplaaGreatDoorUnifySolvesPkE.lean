/-
  The abstract machine and the functions of the law, 5: texts put together.
-/
import Derived.Test.YtelpjaejmneplaaGreatDoorUnifySolvesPkC
set_option linter.unusedVariables false
set_option linter.unusedSimpArgs false
set_option linter.unusedSectionVars false
set_option maxRecDepth 100000
namespace Go.Proofs.YtelpjaejmneplaaGreatDoor.Am
open Go
theorem live08_ran : (run CU.cfg 300 1 32 [] []).map (fun p => p.1) = some (.bool true) := by kernel_rfl
end Go.Proofs.YtelpjaejmneplaaGreatDoor.Am
