/- strings.Index at the longer pair: the evaluator's run where MaxLen holds less than 3. No conditions. -/
import Derived.Test.YtoiclimflfdaeaaGreatDoorKA
set_option linter.unusedSimpArgs false
set_option linter.unusedVariables false
set_option linter.constructorNameAsVariable false
namespace Go.Proofs.YtoiclimflfdaeaaGreatDoor
open Go Go.Ev
open Go.RowKit (Below)
set_option maxRecDepth 100000
theorem run_great : isNegOne (acall (EI false) 251 [.v (.string kw), .v (.string oneName)] hI 14) = true := by kernel_rfl
end Go.Proofs.YtoiclimflfdaeaaGreatDoor
