/- The evaluator's run of known() comes to true. No conditions. -/
import Derived.Test.YtoiclimflfdaeaaGreatDoorKA
set_option linter.unusedSimpArgs false
set_option linter.unusedVariables false
set_option linter.constructorNameAsVariable false
namespace Go.Proofs.YtoiclimflfdaeaaGreatDoor
open Go Go.Ev
open Go.RowKit (Below)

def idx : List Value → Option Value
  | [.string a, .string b] => bif ((a == kw && b == oneName) || (a == nameA && b == blank)) then some (.int .i64 (-1)) else none
  | _ => none

noncomputable def EK : Env := ⟨Tryz.prog, fun f => bif f.beq 251 then some (.spec idx) else bif f.beq 85 then some .overlaps else bif f.beq 226 then some .overlaps else none, fun _ => false, false, fun _ => none, fun _ => none⟩

def isTrue : Option (AV × Hp) → Bool
  | some (.v (.bool b), _) => b
  | _ => false

theorem is_true {r : Option (AV × Hp)} (h : isTrue r = true) : ∃ h', r = some (.v (.bool true), h') := by
  unfold isTrue at h
  split at h
  · subst h; exact ⟨_, rfl⟩
  · simp at h

set_option maxRecDepth 100000
theorem run_known : isTrue (acall EK 5 [] Hp.none 15) = true := by kernel_rfl
end Go.Proofs.YtoiclimflfdaeaaGreatDoor
