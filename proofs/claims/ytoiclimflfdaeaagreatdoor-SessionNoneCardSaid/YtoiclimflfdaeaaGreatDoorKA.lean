/- strings.Index at the two pairs of strings that are asked: the evaluator's runs, where MaxLen holds 3 or more. No conditions. -/
import Derived.Test.YtoiclimflfdaeaaGreatDoorEvM11
import Derived.Test.YtoiclimflfdaeaaGreatDoorProg
import Derived.KernelRfl
import Derived.Lib.IndexEntry
import Derived.Lib.Bytealg
set_option linter.unusedSimpArgs false
set_option linter.unusedVariables false
set_option linter.constructorNameAsVariable false
namespace Go.Proofs.YtoiclimflfdaeaaGreatDoor
open Go Go.Ev
open Go.RowKit (Below)

theorem prog_small : (Tryz.prog.funcs.toList.all fun fn => !(fn.name == "runtime.NumGoroutine") && decide (fn.ntmps ≤ 1000000)) = true := by kernel_rfl
theorem prog_mixed : Tryz.prog.follows .mixedOrders = true := by kernel_rfl

theorem prog_fn {f : FuncId} {fn : Func} (h : Tryz.prog.funcs[f]? = some fn) : (fn.name == "runtime.NumGoroutine") = false ∧ fn.ntmps ≤ 1000000 := by
  have h1 := List.all_eq_true.1 prog_small fn (by simpa using Array.mem_of_getElem? h)
  simpa using h1

theorem env_ok {E : Env} {w0 : World} (hP : E.P = Tryz.prog) (hx : ∀ f k, E.ext f = some k → ExtOk Tryz.prog w0 f k) : E.Ok w0 := by
  refine ⟨by rw [hP]; exact prog_mixed, ?_, ?_, by rw [hP]; exact hx⟩
  · intro f fn h _; rw [hP] at h; exact (prog_fn h).1
  · intro f fn h; rw [hP] at h; exact (prog_fn h).2

/-! strings.Index at what is asked of it. -/
def kw : ByteArray := ⟨#[32, 104, 101, 97, 100, 101, 114, 32, 109, 101, 116, 97, 100, 97, 116, 97, 32, 98, 105, 116, 32, 112, 97, 114, 115, 101, 114, 32, 115, 116, 97, 116, 101, 32, 101, 120, 116, 114, 97, 99, 116, 32, 116, 114, 97, 110, 115, 105, 116, 105, 111, 110, 32, 115, 101, 108, 101, 99, 116, 32, 97, 99, 99, 101, 112, 116, 32, 114, 101, 106, 101, 99, 116, 32, 100, 101, 102, 97, 117, 108, 116, 32, 97, 99, 116, 105, 111, 110, 32, 116, 97, 98, 108, 101, 32, 107, 101, 121, 32, 97, 99, 116, 105, 111, 110, 115, 32, 101, 120, 97, 99, 116, 32, 108, 112, 109, 32, 116, 101, 114, 110, 97, 114, 121, 32, 99, 111, 110, 116, 114, 111, 108, 32, 97, 112, 112, 108, 121, 32, 105, 102, 32, 101, 108, 115, 101, 32, 100, 114, 111, 112, 32, 102, 111, 114, 119, 97, 114, 100, 32, 118, 97, 108, 105, 100, 32, 105, 110, 118, 97, 108, 105, 100, 32, 100, 101, 112, 97, 114, 115, 101, 114, 32, 101, 109, 105, 116, 32, 109, 101, 116, 97, 32, 112, 111, 114, 116, 32, 105, 115, 86, 97, 108, 105, 100, 32, 95, 32]⟩
def oneName : ByteArray := ⟨#[32, 97, 32]⟩
def nameA : ByteArray := ⟨#[97]⟩
def blank : ByteArray := ⟨#[32]⟩

def isIdx (args : Array Value) : Sem Value := match args.toList with
  | [.string a, .string b] => bif (Nat.ble 2 b.size && Nat.ble b.size 3 && Nat.blt a.size 100000) then
      pure (.int .i64 (match (List.range (a.size + 1 - b.size)).find? (fun i => a.extract i (i + b.size) == b) with | some i => (i : Int) | none => -1))
    else stuck ""
  | _ => stuck ""

/-- 'c': the variable MaxLen holds 3 or more. -/
noncomputable def EI (c : Bool) : Env := ⟨Tryz.prog, fun f => bif f.beq 306 then some (.pure Extern.BytealgIndexByte.indexByte) else bif (c && f.beq 273) then some (.pure isIdx) else none,
  fun g => g.beq 1, false, fun i => bif (c && i.beq 30) then some 3 else none, fun i => bif (!c && i.beq 30) then some 3 else none⟩

def hI : Hp := ⟨Tr.upd Go.Ev.bits .nil 1 (some (false, .ro [.oi .i64 30])), 40⟩

def isNegOne : Option (AV × Hp) → Bool
  | some (.v (.int .i64 n), _) => n == -1
  | _ => false

theorem neg_one {r : Option (AV × Hp)} (h : isNegOne r = true) : ∃ h', r = some (.v (.int .i64 (-1)), h') := by
  unfold isNegOne at h
  split at h
  · simp at h; subst h; exact ⟨_, rfl⟩
  · simp at h

set_option maxRecDepth 100000
theorem run_small : isNegOne (acall (EI true) 251 [.v (.string kw), .v (.string oneName)] hI 12) = true := by kernel_rfl
theorem run_one : isNegOne (acall (EI true) 251 [.v (.string nameA), .v (.string blank)] hI 7) = true := by kernel_rfl
theorem run_one' : isNegOne (acall (EI false) 251 [.v (.string nameA), .v (.string blank)] hI 7) = true := by kernel_rfl
end Go.Proofs.YtoiclimflfdaeaaGreatDoor
