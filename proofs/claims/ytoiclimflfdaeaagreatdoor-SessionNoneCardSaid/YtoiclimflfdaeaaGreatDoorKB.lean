/- strings.Index returns -1 at the two pairs of strings that are asked, whatever MaxLen holds. Condition: MaxLen's variable holds a number. -/
import Derived.Test.YtoiclimflfdaeaaGreatDoorKA2
set_option linter.unusedSimpArgs false
set_option linter.unusedVariables false
set_option linter.constructorNameAsVariable false
namespace Go.Proofs.YtoiclimflfdaeaaGreatDoor
open Go Go.Ev
open Go.RowKit (Below)

theorem func306_none : (Tryz.f306.body.isNone, (Extern.findNext Tryz.f306).isNone, Tryz.f306.name == "runtime.NumGoroutine") = (true, true, false) := by kernel_rfl
theorem func306_row : Extern.find Tryz.f306 = some Extern.BytealgIndexByte.indexByte := by kernel_rfl
theorem func273_none : (Tryz.f273.body.isNone, (Extern.findNext Tryz.f273).isNone, Tryz.f273.name == "runtime.NumGoroutine") = (true, true, false) := by kernel_rfl
theorem func273_row : Extern.find Tryz.f273 = some Extern.BytealgIndex.index := by kernel_rfl

theorem run_row {f : FuncId} {fn : Func} {e : Array Value → Sem Value} (hf : Tryz.prog.funcs[f]? = some fn) (h : (fn.body.isNone, (Extern.findNext fn).isNone, fn.name == "runtime.NumGoroutine") = (true, true, false)) (he : Extern.find fn = some e)
    {args : Array Value} {w : World} {v : Value} (hr : (e args).run Tryz.prog w = .ok v w) : (callFunc f args).run Tryz.prog w = .ok (.value v) w := by
  simp only [Prod.mk.injEq] at h
  obtain ⟨h1, h2, h3⟩ := h
  have h4 : Extern.findNext fn = none := by simpa using h2
  have h5 : fn.body = none := by simpa using h1
  have h6 : ¬ fn.name = "runtime.NumGoroutine" := by simpa using h3
  simp [callFunc, hf, h5, h6, h4, he, hr]

theorem ext306 (w0 : World) : ExtOk Tryz.prog w0 306 (.pure Extern.BytealgIndexByte.indexByte) := by
  intro vs v hv w _
  exact run_row Tryz.func306 func306_none func306_row (pureRun_sound _ hv w)

theorem globalNamed_maxLen : Tryz.prog.globals.findIdx? (·.name == "internal/bytealg.MaxLen") = some 1 := by kernel_rfl

theorem ext273 {w0 : World} {m : Int} {t : TypeId} {fz : Nat × Nat} (hm : w0.heap[1]? = some (.cells #[.int .i64 m] t fz)) (h3 : 3 ≤ m) : ExtOk Tryz.prog w0 273 (.pure isIdx) := by
  intro vs v hv w hw
  refine run_row Tryz.func273 func273_none func273_row ?_
  unfold isIdx at hv
  split at hv
  · rename_i a b e
    have e' : vs = [.string a, .string b] := by simpa using e
    subst e'
    rw [cond_eq_ite] at hv
    split at hv
    · rename_i hc
      simp at hc
      obtain rfl := Option.some.inj hv
      have hlt : 1 < w0.heap.size := (Array.getElem?_eq_some_iff.1 hm).1
      have hcell : w.cell? ⟨1, 0, none⟩ = some (.int .i64 m) := by
        have h1 := hw.block 1 hlt
        rw [hm] at h1
        simp [World.cell?, h1]
      have hrun := Lib.run_indexString a b w 1 m globalNamed_maxLen hcell hc.1.1 (by omega) (by omega)
      rw [← Lib.find_index a b (by omega)] at hrun
      exact hrun
    · simp [pureRun, stuck] at hv
  · simp [pureRun, stuck] at hv

def Jm (m : Int) : Jn := fun b => if b = 1 then some (1, 0) else if b = 30 then some (m.toNat, (-m).toNat) else none

theorem hI_find (b : Nat) : hI.H.find b = if b = 1 then some (false, .ro [.oi .i64 30]) else none := by
  unfold hI
  rw [find_upd (by omega), Tr.find_nil]

theorem hr_index {w : World} {m : Int} {t : TypeId} {fz : Nat × Nat} (hm : w.heap[1]? = some (.cells #[.int .i64 m] t fz)) : HR w (Jm m) hI w := by
  refine ⟨by simp [hI], ?_, ?_, ?_, ?_, ?_, ?_, ⟨rfl, rfl, rfl, Nat.le_refl _, fun _ _ => rfl⟩⟩
  · intro b f o e
    rw [hI_find] at e
    split at e
    · rename_i eb; subst eb; simp [hI]
    · simp at e
  · intro b hb
    have : 40 ≤ b := hb
    unfold Jm
    rw [if_neg (by omega), if_neg (by omega)]
  · intro b o e
    rw [hI_find] at e
    split at e
    · rename_i eb; subst eb; exact ⟨1, 0, by simp [Jm]⟩
    · simp at e
  · intro b f o B K e ej
    rw [hI_find] at e
    split at e
    · rename_i eb; subst eb
      simp [Jm] at ej
      obtain ⟨rfl, rfl⟩ := ej
      simp at e
      obtain ⟨_, rfl⟩ := e
      refine ⟨[.int .i64 m], t, fz, ⟨_, _, ⟨m.toNat, (-m).toNat, by simp [Jm], ?_⟩, VRs.nil, rfl⟩, by simpa using hm⟩
      congr 1; omega
    · simp at e
  · intro b b' f f' o o' B K K' e e' _ _
    rw [hI_find] at e e'
    split at e
    · split at e'
      · omega
      · simp at e'
    · simp at e
  · intro b f o B K e _ hro
    rw [hI_find] at e
    split at e
    · simp at e
      obtain ⟨_, rfl⟩ := e
      simp [isRo] at hro
    · simp at e

theorem glob_index {m : Int} {c : Bool} (h : c = true → 3 ≤ m) (h' : c = false → m < 3) : GlobOk (EI c) (Jm m) := by
  refine ⟨?_, ?_, ?_⟩
  · intro g hg
    have : g.beq 1 = true := hg
    obtain rfl := of_beq this
    exact ⟨0, by simp [Jm]⟩
  · intro i k e
    have e' : (bif (c && i.beq 30) then some (3 : Int) else none) = some k := e
    rw [cond_eq_ite] at e'
    split at e'
    · rename_i hc
      simp at hc e'
      obtain ⟨rfl, rfl⟩ := hc
      subst e'
      exact ⟨m.toNat, (-m).toNat, by simp [Jm], by have := h rfl; omega⟩
    · simp at e'
  · intro i k e
    have e' : (bif (!c && i.beq 30) then some (3 : Int) else none) = some k := e
    rw [cond_eq_ite] at e'
    split at e'
    · rename_i hc
      simp at hc e'
      obtain ⟨rfl, rfl⟩ := hc
      subst e'
      exact ⟨m.toNat, (-m).toNat, by simp [Jm], by have := h' rfl; omega⟩
    · simp at e'

theorem ext_index {w0 : World} {c : Bool} {m : Int} {t : TypeId} {fz : Nat × Nat} (hm : w0.heap[1]? = some (.cells #[.int .i64 m] t fz)) (h : c = true → 3 ≤ m) : ∀ f k, (EI c).ext f = some k → ExtOk Tryz.prog w0 f k := by
  intro f k e
  have e' : (bif f.beq 306 then some (.pure Extern.BytealgIndexByte.indexByte) else bif (c && f.beq 273) then some (.pure isIdx) else none) = some k := e
  rw [cond_eq_ite] at e'
  split at e'
  · rename_i hf
    obtain rfl := of_beq hf
    simp at e'; subst e'
    exact ext306 w0
  · rw [cond_eq_ite] at e'
    split at e'
    · rename_i hf
      simp at hf e'
      obtain ⟨rfl, rfl⟩ := hf
      subst e'
      exact ext273 hm (h rfl)
    · simp at e'

/-- What strings.Index comes to where it is asked. -/
theorem index_calls {w : World} {m : Int} {t : TypeId} {fz : Nat × Nat} (hm : w.heap[1]? = some (.cells #[.int .i64 m] t fz)) {a b : ByteArray} (hab : (a = kw ∧ b = oneName) ∨ (a = nameA ∧ b = blank)) :
    Calls Tryz.prog 251 #[.string a, .string b] w fun e w' => e = .returned (.int .i64 (-1)) ∧ Below w.heap.size w w' := by
  have fin : ∀ (c : Bool) (k : Nat), (c = true → 3 ≤ m) → (c = false → m < 3) → isNegOne (acall (EI c) 251 [.v (.string a), .v (.string b)] hI k) = true →
      Calls Tryz.prog 251 #[.string a, .string b] w fun e w' => e = .returned (.int .i64 (-1)) ∧ Below w.heap.size w w' := by
    intro c k h1 h2 hk
    obtain ⟨h', hr⟩ := neg_one hk
    refine Calls.mono (acall_sound (E := EI c) (w0 := w) (env_ok rfl (ext_index hm h1)) rfl (hr_index hm) (glob_index h1 h2) (VRs.map_v [.string a, .string b]) hr) ?_
    rintro e w' ⟨J', v, rfl, hv, hh⟩
    simp [VR] at hv
    exact ⟨by rw [hv], hh.below⟩
  rcases hab with ⟨rfl, rfl⟩ | ⟨rfl, rfl⟩
  · by_cases h : 3 ≤ m
    · exact fin true 12 (fun _ => h) (fun e => by simp at e) run_small
    · exact fin false 14 (fun e => by simp at e) (fun _ => by omega) run_great
  · by_cases h : 3 ≤ m
    · exact fin true 7 (fun _ => h) (fun e => by simp at e) run_one
    · exact fin false 7 (fun e => by simp at e) (fun _ => by omega) run_one'
end Go.Proofs.YtoiclimflfdaeaaGreatDoor
