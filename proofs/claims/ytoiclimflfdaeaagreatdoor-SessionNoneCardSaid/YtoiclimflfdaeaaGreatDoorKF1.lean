/- In a memory of the program's shape MaxLen's variable holds a number. No conditions. -/
import Derived.Test.YtoiclimflfdaeaaGreatDoorKE
import Derived.Test.YtoiclimflfdaeaaGreatDoorTie
import Derived.Test.YtoiclimflfdaeaaGreatDoorCards
import Derived.ProofKit
import Derived.OpenShut
import Derived.LaidMore
import Derived.Lay
import Derived.SevenTiedAt
import Derived.Stop.Joined
import Derived.Carry
set_option linter.unusedSimpArgs false
set_option linter.unusedVariables false
set_option linter.constructorNameAsVariable false
namespace Go.Proofs.YtoiclimflfdaeaaGreatDoor
open Go
open Go.ChangeShapes Go.WideShapes Go.ChangeAt Go.RowKit

theorem own : ownKnob Tryz.prog.godebug = none := by kernel_rfl
theorem laidOut : laidOutB Tryz.prog = true := by kernel_rfl
theorem start1 : ((begin Tryz.prog (fun _ _ => 0) default).world.heap[1]?).bind Obj.row? = some (#[.int .i64 0], 3) := by kernel_rfl
theorem vars1 : (decide (1 < Tryz.prog.globals.size), Tryz.prog.buildable 3, Tryz.prog.cellTypes Tryz.prog.depth 3) = (true, true, some [3]) := by kernel_rfl

theorem row_int {P : Program} {W : World} {base : Nat} {cs : Array Value} (hs : cs.size = 1) (hu : P.underlying 3 = some (.int .i64)) (ht : P.cellTypes P.depth 3 = some [3]) (hr : Row.ok P W .any base 3 cs) : ∃ m, cs = #[.int .i64 m] := by
  obtain ⟨ts, e1, _, e3⟩ := hr
  rw [ht] at e1
  obtain rfl := Option.some.inj e1
  obtain ⟨l⟩ := cs
  match l, hs with
  | [v], _ =>
    obtain ⟨u, q1, q2⟩ := e3 0 v rfl
    simp at q1; subst q1
    unfold Cell.ok at q2
    rw [hu] at q2
    cases v with
    | int k j =>
      simp at q2
      obtain ⟨rfl, _⟩ := q2
      exact ⟨j, rfl⟩
    | _ => simp at q2

theorem shaped_int {P : Program} {w : World} (h : w.ShapedOpen P) (hu : P.underlying 3 = some (.int .i64)) (hv : (decide (1 < P.globals.size), P.buildable 3, P.cellTypes P.depth 3) = (true, true, some [3]))
    (h0 : ((begin P (fun _ _ => 0) default).world.heap[1]?).bind Obj.row? = some (#[.int .i64 0], 3)) : ∃ m, w.heap[1]? = some (.cells #[.int .i64 m] 3 (0, 0)) := by
  simp only [Prod.mk.injEq, decide_eq_true_eq] at hv
  obtain ⟨cs, h1, h2, h3⟩ := h.1 1 _ 3 hv.1 h0
  obtain ⟨m, rfl⟩ := row_int h2 hu hv.2.2 (h3 hv.2.1)
  exact ⟨m, h1⟩

/-- What the variable MaxLen holds: some number. -/
theorem maxLen_cell {w : World} (h : w.ShapedOpen Tryz.prog) : ∃ m, w.heap[1]? = some (.cells #[.int .i64 m] 3 (0, 0)) :=
  shaped_int h Tryz.underlying3 vars1 start1
end Go.Proofs.YtoiclimflfdaeaaGreatDoor
