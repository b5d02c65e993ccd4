/-
  The abstract machine and the functions of the law, 5: texts put together.
-/
import Derived.Test.YtelpjaejmneplaaGreatDoorReachPathsPkC
set_option linter.unusedVariables false
set_option linter.unusedSimpArgs false
set_option linter.unusedSectionVars false
set_option maxRecDepth 100000

