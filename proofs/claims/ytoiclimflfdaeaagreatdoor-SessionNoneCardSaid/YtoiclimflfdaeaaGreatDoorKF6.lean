/- The law SessionNone returns true, at every order: the card, whole (not narrowed). No conditions. -/
import Derived.Test.YtoiclimflfdaeaaGreatDoorKF3
import Derived.Test.YtoiclimflfdaeaaGreatDoorKF4
import Derived.Test.YtoiclimflfdaeaaGreatDoorKF5
set_option linter.unusedSimpArgs false
set_option linter.unusedVariables false
set_option linter.constructorNameAsVariable false
namespace Go.Proofs.YtoiclimflfdaeaaGreatDoor
open Go

theorem card_holds : Rows.SessionNoneCardSaid :=
  Claim7.holds_tied_plain_at .later [] [.data, .data, .data] true (true, "b2abab9a90f1fa180d30ab8e8dfed60b10bec6f97803fac15dd7a000d941f07d") true holds (fun _ h => by cases h) wf_fact (fun _ h => by cases h) sessionNone_row_tie rfl ⟨rfl, rfl⟩ main_fact rfl
    (fun f fn hf hfn => by
      obtain rfl : f = 3 := Option.some.inj (named_fact.symm.trans hf) |>.symm
      obtain rfl : fn = Tryz.f3 := (Option.some.inj (Tryz.func3.symm.trans hfn)).symm
      exact ⟨looks_fact, fun j t ht => by
        rw [Tryz.params3] at ht
        have hm : t ∈ [39] := by simpa using Array.mem_of_getElem? ht
        exact (show Tryz.prog.wantsStandIn t = false by simpa using List.all_eq_true.1 stand_fact t hm)⟩)
    (goes_none rfl no_goes)
#print axioms card_holds
end Go.Proofs.YtoiclimflfdaeaaGreatDoor
