/- The evaluator's runs of the law at an order of which nothing is told but bounds: each comes to true. No conditions. -/
import Derived.Test.YtoiclimflfdaeaaGreatDoorKA
set_option linter.unusedSimpArgs false
set_option linter.unusedVariables false
set_option linter.constructorNameAsVariable false
namespace Go.Proofs.YtoiclimflfdaeaaGreatDoor
open Go Go.Ev
open Go.RowKit (Below)

/-- The order that is given: nothing is told of it but what it is made of. -/
def order : AV := .agg [.oi .u8 0, .oi .u8 1, .oi .i64 2, .oi .i64 3, .oi .i64 4, .osl 5, .oi .i64 6, .oi .i64 7, .oi .i64 8, .osl 9, .oi .i64 10, .oi .i64 11, .oi .i64 12, .oi .i64 13, .osl 14, .oi .u8 15, .osl 16, .osl 17, .osl 18]

def isNil : List Value → Option Value
  | [] => some (.bool true)
  | _ => none

def look : List (Nat × Int) → Nat → Option Int
  | [], _ => none
  | (j, m) :: l, i => bif i.beq j then some m else look l i

noncomputable def EL (lo hi : List (Nat × Int)) : Env := ⟨Tryz.prog, fun f => bif f.beq 5 then some (.spec isNil) else none, fun _ => false, false, look lo, look hi⟩

def hL : Hp := ⟨.nil, 40⟩

def isTrue' : Option (AV × Hp) → Bool
  | some (.v (.bool b), _) => b
  | _ => false

set_option maxRecDepth 100000
theorem l1 : isTrue' (acall (EL [(16, 31)] []) 3 [order] hL 10) = true := by kernel_rfl
theorem l2 : isTrue' (acall (EL [(17, 31)] [(16, 31)]) 3 [order] hL 10) = true := by kernel_rfl
theorem l3 : isTrue' (acall (EL [(18, 401)] [(16, 31), (17, 31)]) 3 [order] hL 10) = true := by kernel_rfl
theorem l4 : isTrue' (acall (EL [(11, 3)] [(16, 31), (17, 31), (18, 401), (11, 9)]) 3 [order] hL 10) = true := by kernel_rfl
-- the bounds' length: below 3, or 9 and above
theorem m1 : isTrue' (acall (EL [(13, 16385)] [(16, 31), (17, 31), (18, 401), (11, 3), (13, 1048577)]) 3 [order] hL 10) = true := by kernel_rfl
theorem m2 : isTrue' (acall (EL [(5, 11)] [(16, 31), (17, 31), (18, 401), (11, 3), (13, 16385)]) 3 [order] hL 10) = true := by kernel_rfl
theorem m3 : isTrue' (acall (EL [(9, 11)] [(16, 31), (17, 31), (18, 401), (11, 3), (13, 16385), (5, 11)]) 3 [order] hL 10) = true := by kernel_rfl
theorem m4 : isTrue' (acall (EL [] [(16, 31), (17, 31), (18, 401), (11, 3), (13, 16385), (5, 11), (9, 11)]) 3 [order] hL 12) = true := by kernel_rfl
theorem m5 : isTrue' (acall (EL [(13, 1048577), (5, 11)] [(16, 31), (17, 31), (18, 401), (11, 3)]) 3 [order] hL 10) = true := by kernel_rfl
theorem m6 : isTrue' (acall (EL [(13, 1048577), (9, 11)] [(16, 31), (17, 31), (18, 401), (11, 3), (5, 11)]) 3 [order] hL 10) = true := by kernel_rfl
theorem m7 : isTrue' (acall (EL [(13, 1048577)] [(16, 31), (17, 31), (18, 401), (11, 3), (5, 11), (9, 11)]) 3 [order] hL 12) = true := by kernel_rfl
theorem n1 : isTrue' (acall (EL [(11, 9), (13, 16385)] [(16, 31), (17, 31), (18, 401), (13, 1048577)]) 3 [order] hL 10) = true := by kernel_rfl
theorem n2 : isTrue' (acall (EL [(11, 9), (5, 11)] [(16, 31), (17, 31), (18, 401), (13, 16385)]) 3 [order] hL 10) = true := by kernel_rfl
theorem n3 : isTrue' (acall (EL [(11, 9), (9, 11)] [(16, 31), (17, 31), (18, 401), (13, 16385), (5, 11)]) 3 [order] hL 10) = true := by kernel_rfl
theorem n4 : isTrue' (acall (EL [(11, 9)] [(16, 31), (17, 31), (18, 401), (13, 16385), (5, 11), (9, 11)]) 3 [order] hL 12) = true := by kernel_rfl
theorem n5 : isTrue' (acall (EL [(11, 9), (13, 1048577), (5, 11)] [(16, 31), (17, 31), (18, 401)]) 3 [order] hL 10) = true := by kernel_rfl
theorem n6 : isTrue' (acall (EL [(11, 9), (13, 1048577), (9, 11)] [(16, 31), (17, 31), (18, 401), (5, 11)]) 3 [order] hL 10) = true := by kernel_rfl
theorem n7 : isTrue' (acall (EL [(11, 9), (13, 1048577)] [(16, 31), (17, 31), (18, 401), (5, 11), (9, 11)]) 3 [order] hL 12) = true := by kernel_rfl
end Go.Proofs.YtoiclimflfdaeaaGreatDoor
