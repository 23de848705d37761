/- Closed facts of the card of SessionNone. No conditions. -/
import Derived.Test.YtoiclimflfdaeaaGreatDoorTie
import Derived.Test.YtoiclimflfdaeaaGreatDoorCards
import Derived.ProofKit
import Derived.SevenTiedAt
set_option linter.unusedSimpArgs false
set_option linter.unusedVariables false
set_option linter.constructorNameAsVariable false
namespace Go.Proofs.YtoiclimflfdaeaaGreatDoor
open Go

theorem wf_fact : Rows.sessionNoneRow.wfByText (OpenSpec.ofChange Rows.sessionNoneSpec) = true := by kernel_rfl
theorem main_fact : Tryz.pinned.checked.prog.mainIs = some (true, "b2abab9a90f1fa180d30ab8e8dfed60b10bec6f97803fac15dd7a000d941f07d".toList) := by kernel_rfl
theorem looks_fact : true = Tryz.pinned.checked.prog.looks [] := by kernel_rfl
theorem named_fact : Tryz.prog.funcNamed "quillon/quillonlaw50.SessionNone" = some 3 := by kernel_rfl
theorem stand_fact : ([39].all fun u => !Tryz.prog.wantsStandIn u) = true := by kernel_rfl
end Go.Proofs.YtoiclimflfdaeaaGreatDoor
