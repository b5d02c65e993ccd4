/-
  The abstract machine and the functions of the law, 6: texts put together.
-/
import Derived.Test.YtbbekbjcmnopjaaGreatDoorNodeNonePkC
set_option linter.unusedVariables false
set_option linter.unusedSimpArgs false
set_option linter.unusedSectionVars false
set_option maxRecDepth 100000
namespace Go.Proofs.YtbbekbjcmnopjaaGreatDoor.Am
open Go
theorem live19_ran : (run CU.cfg 300 1 5 [] []).map (fun p => p.1) = some (.bool true) := by kernel_rfl
end Go.Proofs.YtbbekbjcmnopjaaGreatDoor.Am
