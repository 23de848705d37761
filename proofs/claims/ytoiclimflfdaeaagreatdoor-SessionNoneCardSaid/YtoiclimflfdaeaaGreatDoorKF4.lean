/- No function of this program's cut starts a goroutine. No conditions. -/
import Derived.Test.YtoiclimflfdaeaaGreatDoorTie
import Derived.Test.YtoiclimflfdaeaaGreatDoorCards
import Derived.ProofKit
import Derived.SevenTiedAt
set_option linter.unusedSimpArgs false
set_option linter.unusedVariables false
set_option linter.constructorNameAsVariable false
namespace Go.Proofs.YtoiclimflfdaeaaGreatDoor
open Go

/-- Where no function's text starts a goroutine, no call does. -/
theorem goes_none {P : Program} {c : OpenClaim} (hs : c.start = .entering) (h : P.funcs.any Func.goes = false) : false = c.goesBy P := by
  have hf : ∀ f, P.goes f = false := by
    intro f
    unfold Program.goes
    rw [h, Bool.and_false, Bool.or_false, List.any_eq_false]
    intro g _
    cases e : P.funcs[g]? with
    | none => simp
    | some fn =>
      have hm : fn ∈ P.funcs := Array.mem_of_getElem? e
      have := Array.any_eq_false'.1 h fn hm
      simpa using this
  unfold OpenClaim.goesBy Program.goesAt Program.goesFrom
  rw [hs]
  cases P.funcNamed c.func with
  | none => rfl
  | some f => simp [hf f]

theorem no_goes : Tryz.prog.funcs.any Func.goes = false := by kernel_rfl
end Go.Proofs.YtoiclimflfdaeaaGreatDoor
