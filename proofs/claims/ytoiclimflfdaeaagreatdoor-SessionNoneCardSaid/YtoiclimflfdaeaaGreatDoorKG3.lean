/- Closed facts of the row of SessionNone. No conditions. -/
import Derived.Test.YtoiclimflfdaeaaGreatDoorTie
import Derived.Test.YtoiclimflfdaeaaGreatDoorCards
import Derived.ProofKit
import Derived.JoinedOf
set_option linter.unusedSimpArgs false
set_option linter.unusedVariables false
set_option linter.constructorNameAsVariable false
namespace Go.Proofs.YtoiclimflfdaeaaGreatDoor
open Go
set_option maxRecDepth 100000
theorem closed10 : ((Rows.sessionNoneRow.unfollowed == Tryz.pinned.checked.prog.unfollowed 3)) = true := by kernel_rfl
end Go.Proofs.YtoiclimflfdaeaaGreatDoor
