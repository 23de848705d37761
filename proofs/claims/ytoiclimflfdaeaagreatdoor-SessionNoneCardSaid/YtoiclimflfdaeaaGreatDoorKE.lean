/- known() returns true, and the law returns true at every order; nothing that was there has turned. Condition: MaxLen's variable holds a number; the order has its type's shape. -/
import Derived.Test.YtoiclimflfdaeaaGreatDoorKB
import Derived.Test.YtoiclimflfdaeaaGreatDoorKC
import Derived.Test.YtoiclimflfdaeaaGreatDoorKD
set_option linter.unusedSimpArgs false
set_option linter.unusedVariables false
set_option linter.constructorNameAsVariable false
namespace Go.Proofs.YtoiclimflfdaeaaGreatDoor
open Go Go.Ev
open Go.RowKit (Below)

theorem entered {f : FuncId} {fn : Func} (hf : Tryz.prog.funcs[f]? = some fn) (hb : fn.body.isNone = false) (args : Array Value) (w : World) : (callFunc f args).run Tryz.prog w = .ok (.enter f args) w := by
  have h6 : ¬ fn.name = "runtime.NumGoroutine" := by simpa using (prog_fn hf).1
  have h5 : ¬ fn.body = none := by intro e; rw [e] at hb; simp at hb
  simp [callFunc, hf, h5, h6]

theorem ext85 (w0 : World) : ExtOk Tryz.prog w0 85 .overlaps := by
  refine ⟨42, 4, 3, 1, Tryz.underlying42, by kernel_rfl, fun x y w => ?_⟩
  have h1 : (Tryz.f85.body.isNone, (Extern.findNext Tryz.f85).isNone, Tryz.f85.name == "runtime.NumGoroutine") = (true, true, false) := by kernel_rfl
  have h2 : Extern.find Tryz.f85 = some (Extern.SlicesOverlaps.overlaps #[42, 42] #[4]) := by kernel_rfl
  simp only [Prod.mk.injEq] at h1
  have h4 : Extern.findNext Tryz.f85 = none := by simpa using h1.2.1
  have h5 : Tryz.f85.body = none := by simpa using h1.1
  have h6 : ¬ Tryz.f85.name = "runtime.NumGoroutine" := by simpa using h1.2.2
  simp [callFunc, Tryz.func85, h5, h6, h4, h2]

theorem ext226 (w0 : World) : ExtOk Tryz.prog w0 226 .overlaps := by
  have hs : (Tryz.prog.underlying 105, sizeOf? Tryz.prog 27) = (some (.slice 27), some 6) := by kernel_rfl
  simp only [Prod.mk.injEq] at hs
  refine ⟨105, 4, 27, 6, hs.1, hs.2, fun x y w => ?_⟩
  have h1 : (Tryz.f226.body.isNone, (Extern.findNext Tryz.f226).isNone, Tryz.f226.name == "runtime.NumGoroutine") = (true, true, false) := by kernel_rfl
  have h2 : Extern.find Tryz.f226 = some (Extern.SlicesOverlaps.overlaps #[105, 105] #[4]) := by kernel_rfl
  simp only [Prod.mk.injEq] at h1
  have h4 : Extern.findNext Tryz.f226 = none := by simpa using h1.2.1
  have h5 : Tryz.f226.body = none := by simpa using h1.1
  have h6 : ¬ Tryz.f226.name = "runtime.NumGoroutine" := by simpa using h1.2.2
  simp [callFunc, Tryz.func226, h5, h6, h4, h2]

theorem idx_some {vs : List Value} {v : Value} (h : idx vs = some v) : ∃ a b, vs = [.string a, .string b] ∧ v = .int .i64 (-1) ∧ ((a = kw ∧ b = oneName) ∨ (a = nameA ∧ b = blank)) := by
  unfold idx at h
  split at h
  · rename_i a b
    rw [cond_eq_ite] at h
    split at h
    · rename_i hc
      simp only [Bool.or_eq_true, Bool.and_eq_true] at hc
      simp at h
      exact ⟨a, b, rfl, h.symm, hc.imp (fun ⟨x, y⟩ => ⟨bytes_eq x, bytes_eq y⟩) (fun ⟨x, y⟩ => ⟨bytes_eq x, bytes_eq y⟩)⟩
    · simp at h
  · simp at h

theorem body251 : Tryz.f251.body.isNone = false := by kernel_rfl
theorem body5 : Tryz.f5.body.isNone = false := by kernel_rfl

theorem kept {w w' : World} {o : Obj} (hm : w.heap[1]? = some o) (hb : Below w.heap.size w w') : w'.heap[1]? = some o :=
  (hb.block 1 (Array.getElem?_eq_some_iff.1 hm).1).trans hm

theorem ext_known {w0 : World} {m : Int} {t : TypeId} {fz : Nat × Nat} (hm : w0.heap[1]? = some (.cells #[.int .i64 m] t fz)) : ∀ f k, EK.ext f = some k → ExtOk Tryz.prog w0 f k := by
  intro f k e
  have e' : (bif f.beq 251 then some (.spec idx) else bif f.beq 85 then some .overlaps else bif f.beq 226 then some .overlaps else none) = some k := e
  rw [cond_eq_ite] at e'
  split at e'
  · rename_i hf
    obtain rfl := of_beq hf
    simp at e'; subst e'
    intro vs v hv w hw
    obtain ⟨a, b, rfl, rfl, hab⟩ := idx_some hv
    exact ⟨entered Tryz.func251 body251 _ w, index_calls (kept hm hw) hab⟩
  · rw [cond_eq_ite] at e'
    split at e'
    · rename_i hf
      obtain rfl := of_beq hf
      simp at e'; subst e'
      exact ext85 w0
    · rw [cond_eq_ite] at e'
      split at e'
      · rename_i hf
        obtain rfl := of_beq hf
        simp at e'; subst e'
        exact ext226 w0
      · simp at e'

theorem glob_known (J : Jn) : GlobOk EK J :=
  ⟨fun g hg => by have : false = true := hg; simp at this, fun i k e => by have : none = some k := e; simp at this, fun i k e => by have : none = some k := e; simp at this⟩

/-- 'known' returns true. -/
theorem known_calls {w : World} {m : Int} {t : TypeId} {fz : Nat × Nat} (hm : w.heap[1]? = some (.cells #[.int .i64 m] t fz)) :
    Calls Tryz.prog 5 #[] w fun e w' => e = .returned (.bool true) ∧ Below w.heap.size w w' := by
  obtain ⟨h', hr⟩ := is_true run_known
  exact acall_pure (E := EK) (env_ok rfl (ext_known hm)) rfl glob_known (args := []) hr

theorem is_true' {r : Option (AV × Hp)} (h : isTrue' r = true) : ∃ h', r = some (.v (.bool true), h') := by
  unfold isTrue' at h
  split at h
  · subst h; exact ⟨_, rfl⟩
  · simp at h

theorem isNil_some {vs : List Value} {v : Value} (h : isNil vs = some v) : vs = [] ∧ v = .bool true := by
  unfold isNil at h
  split at h
  · simp at h; exact ⟨rfl, h.symm⟩
  · simp at h

theorem ext_law {w0 : World} {m : Int} {t : TypeId} {fz : Nat × Nat} (hm : w0.heap[1]? = some (.cells #[.int .i64 m] t fz)) (lo hi : List (Nat × Int)) : ∀ f k, (EL lo hi).ext f = some k → ExtOk Tryz.prog w0 f k := by
  intro f k e
  have e' : (bif f.beq 5 then some (.spec isNil) else none) = some k := e
  rw [cond_eq_ite] at e'
  split at e'
  · rename_i hf
    obtain rfl := of_beq hf
    simp at e'; subst e'
    intro vs v hv w hw
    obtain ⟨rfl, rfl⟩ := isNil_some hv
    exact ⟨entered Tryz.func5 body5 _ w, known_calls (kept hm hw)⟩
  · simp at e'

/-! The order's cells. -/
def Jc (cs : Array Value) : Jn := fun b => match cs[b]? with
  | some (.int _ n) => some (n.toNat, (-n).toNat)
  | some (.slice _ l _) => some (l, 0)
  | _ => none

def num (cs : Array Value) (i : Nat) : Int := match Jc cs i with
  | some (B, K) => (B : Int) - (K : Int)
  | none => 0

def avOf : Option IntKind → Nat → AV
  | some k, i => .oi k i
  | none, i => .osl i

def avs : List (Option IntKind) → Nat → List AV
  | [], _ => []
  | s :: l, i => avOf s i :: avs l (i + 1)

def fitOne (P : Program) (s : Option IntKind) (t : TypeId) : Bool := match s with
  | some k => match P.underlying t with
    | some (.int k') => k == k'
    | _ => false
  | none => match P.underlying t with
    | some (.slice _) => true
    | _ => false

def fits (P : Program) : List (Option IntKind) → List TypeId → Bool
  | [], [] => true
  | s :: ss, t :: ts => fitOne P s t && fits P ss ts
  | _, _ => false

def shapes : List (Option IntKind) := [some .u8, some .u8, some .i64, some .i64, some .i64, none, some .i64, some .i64, some .i64, none, some .i64, some .i64, some .i64, some .i64, none, some .u8, none, none, none]

theorem order_eq : order = .agg (avs shapes 0) := rfl

theorem cell_vr {P : Program} {W : World} {base : Nat} {cs : Array Value} {s : Option IntKind} {t : TypeId} {i : Nat} {v : Value} (hc : cs[i]? = some v) (hv : Cell.okWide P W .any base t v)
    (hf : fitOne P s t = true) :
    VR (Jc cs) (avOf s i) v ∧ ∃ x, Jc cs i = some x := by
  unfold Cell.okWide Cell.ok at hv
  unfold fitOne at hf
  cases s with
  | some k =>
    simp only at hf
    split at hf
    · rename_i k' hu
      simp at hf; subst hf
      rw [hu] at hv
      cases v <;> simp at hv
      rename_i k2 n
      obtain ⟨rfl, _⟩ := hv
      have hJ : Jc cs i = some (n.toNat, (-n).toNat) := by unfold Jc; rw [hc]
      refine ⟨⟨_, _, hJ, ?_⟩, _, hJ⟩
      congr 1; omega
    · simp at hf
  | none =>
    simp only at hf
    split at hf
    · rename_i e hu
      rw [hu] at hv
      cases v <;> simp at hv
      rename_i a l c
      have hJ : Jc cs i = some (l, 0) := by unfold Jc; rw [hc]
      exact ⟨⟨_, a, c, hJ, rfl⟩, _, hJ⟩
    · simp at hf

theorem cells_vr {P : Program} {W : World} {base : Nat} {cs : Array Value} : ∀ (ss : List (Option IntKind)) (ts : List TypeId) (i : Nat), fits P ss ts = true → (cs.toList.drop i).length = ss.length →
    (∀ j v, cs[i + j]? = some v → ∃ u, ts[j]? = some u ∧ Cell.okWide P W .any base u v) → VRs (Jc cs) (avs ss i) (cs.toList.drop i) ∧ ∀ j, j < ss.length → ∃ x, Jc cs (i + j) = some x
  | [], ts, i, _, hl, _ => by
    have : cs.toList.drop i = [] := List.eq_nil_of_length_eq_zero (by simpa using hl)
    rw [this]
    exact ⟨VRs.nil, fun j hj => by simp at hj⟩
  | s :: ss, [], i, hf, _, _ => by simp [fits] at hf
  | s :: ss, t :: ts, i, hf, hl, hc => by
    have hlt : i < cs.toList.length := by simp at hl ⊢; omega
    have hd : cs.toList.drop i = cs.toList[i] :: cs.toList.drop (i + 1) := List.drop_eq_getElem_cons hlt
    have hget : cs[i]? = some (cs.toList[i]) := by rw [← Array.getElem?_toList]; exact List.getElem?_eq_getElem hlt
    obtain ⟨u, hu, hok⟩ := hc 0 (cs.toList[i]) hget
    simp at hu; subst hu
    have hf' : fitOne P s t = true ∧ fits P ss ts = true := by simpa [fits] using hf
    obtain ⟨h1, h2⟩ := cell_vr hget hok hf'.1
    obtain ⟨h3, h4⟩ := cells_vr (cs := cs) (W := W) (base := base) ss ts (i + 1) hf'.2 (by simp at hl ⊢; omega) (fun j v e => by
      obtain ⟨u, e1, e2⟩ := hc (j + 1) v (by rw [show i + (j + 1) = i + 1 + j by omega]; exact e)
      exact ⟨u, by simpa using e1, e2⟩)
    rw [hd]
    refine ⟨VRs.cons h1 h3, fun j hj => ?_⟩
    cases j with
    | zero => exact h2
    | succ j =>
      have := h4 j (by simp at hj; omega)
      rw [show i + (j + 1) = i + 1 + j by omega]
      exact this

theorem hr_law {w : World} {cs : Array Value} (hsz : cs.size = 19) : HR w (Jc cs) hL w := by
  have hfind : ∀ b, hL.H.find b = none := fun b => by unfold hL; exact Tr.find_nil b
  refine ⟨by simp [hL], fun b f o e => by rw [hfind] at e; simp at e, ?_, fun b o e => by rw [hfind] at e; simp at e, fun b f o B K e => by rw [hfind] at e; simp at e,
    fun b b' f f' o o' B K K' e => by rw [hfind] at e; simp at e, fun b f o B K e => by rw [hfind] at e; simp at e, ⟨rfl, rfl, rfl, Nat.le_refl _, fun _ _ => rfl⟩⟩
  intro b hb
  have h40 : 40 ≤ b := hb
  have : cs[b]? = none := by rw [Array.getElem?_eq_none_iff]; omega
  unfold Jc
  rw [this]

theorem look_mem : ∀ {l : List (Nat × Int)} {i : Nat} {m : Int}, look l i = some m → (i, m) ∈ l
  | [], _, _, h => by simp [look] at h
  | (j, k) :: l, i, m, h => by
    simp only [look] at h
    rw [cond_eq_ite] at h
    split at h
    · rename_i e
      obtain rfl := of_beq e
      simp at h; subst h; simp
    · exact List.mem_cons_of_mem _ (look_mem h)

theorem types39 : Tryz.prog.cellTypes Tryz.prog.depth 39 = some [5, 5, 3, 3, 3, 22, 3, 3, 3, 23, 3, 3, 3, 3, 30, 5, 33, 33, 35] := by kernel_rfl
set_option maxRecDepth 100000
theorem fits39 : fits Tryz.prog shapes [5, 5, 3, 3, 3, 22, 3, 3, 3, 23, 3, 3, 3, 3, 30, 5, 33, 33, 35] = true := by kernel_rfl
theorem cells39 : Tryz.prog.cellsOf 39 = 19 := by kernel_rfl

/-- The law returns true. -/
theorem law_calls {W : World} {base : Nat} {m : Int} {t : TypeId} {fz : Nat × Nat} (hm : W.heap[1]? = some (.cells #[.int .i64 m] t fz)) {cs : Array Value} (hsz : cs.size = 19) (hrow : Row.okWide Tryz.prog W .any base 39 cs) :
    Calls Tryz.prog 3 #[.agg cs] W fun e w' => e = .returned (.bool true) ∧ Below W.heap.size W w' := by
  obtain ⟨ts, hts, _, hcell⟩ := hrow
  rw [types39] at hts
  obtain rfl := Option.some.inj hts
  have hgood := cells_vr (P := Tryz.prog) (W := W) (base := base) (cs := cs) shapes [5, 5, 3, 3, 3, 22, 3, 3, 3, 23, 3, 3, 3, 3, 30, 5, 33, 33, 35] 0 fits39 (by simp [hsz, shapes]) (by
    intro j v e
    rw [Nat.zero_add] at e
    obtain ⟨u, e1, e2⟩ := hcell j v e
    have hj : j < cs.size := (Array.getElem?_eq_some_iff.1 e).1
    rw [Nat.mod_eq_of_lt (by simp; omega)] at e1
    exact ⟨u, e1, e2⟩)
  have hvr : VR (Jc cs) order (.agg cs) := by
    rw [order_eq]
    exact ⟨cs.toList, by simpa using hgood.1, by simp⟩
  have hJ : ∀ i, i < 19 → ∃ B K, Jc cs i = some (B, K) ∧ (B : Int) - (K : Int) = num cs i := by
    intro i hi
    obtain ⟨⟨B, K⟩, e⟩ := hgood.2 i (by simpa [shapes] using hi)
    rw [Nat.zero_add] at e
    exact ⟨B, K, e, by unfold num; rw [e]⟩
  have fin : ∀ (lo hi : List (Nat × Int)) (k : Nat), (∀ p ∈ lo, p.1 < 19 ∧ p.2 ≤ num cs p.1) → (∀ p ∈ hi, p.1 < 19 ∧ num cs p.1 < p.2) → isTrue' (acall (EL lo hi) 3 [order] hL k) = true →
      Calls Tryz.prog 3 #[.agg cs] W fun e w' => e = .returned (.bool true) ∧ Below W.heap.size W w' := by
    intro lo hi k h1 h2 hk
    obtain ⟨h', hr⟩ := is_true' hk
    have hglob : GlobOk (EL lo hi) (Jc cs) := by
      refine ⟨fun g hg => by have : false = true := hg; simp at this, fun i m e => ?_, fun i m e => ?_⟩
      · have e' : look lo i = some m := e
        obtain ⟨q1, q2⟩ := h1 _ (look_mem e')
        obtain ⟨B, K, e1, e2⟩ := hJ i q1
        exact ⟨B, K, e1, by rw [e2]; exact q2⟩
      · have e' : look hi i = some m := e
        obtain ⟨q1, q2⟩ := h2 _ (look_mem e')
        obtain ⟨B, K, e1, e2⟩ := hJ i q1
        exact ⟨B, K, e1, by rw [e2]; exact q2⟩
    refine Calls.mono (acall_sound (E := EL lo hi) (w0 := W) (env_ok rfl (ext_law hm lo hi)) rfl (hr_law hsz) hglob (VRs.cons hvr VRs.nil) hr) ?_
    rintro e w' ⟨J', v, rfl, hv, hh⟩
    simp [VR] at hv
    exact ⟨by rw [hv], hh.below⟩
  by_cases c16 : 31 ≤ num cs 16
  · exact fin _ _ _ (by simp; omega) (by simp) l1
  by_cases c17 : 31 ≤ num cs 17
  · exact fin _ _ _ (by simp; omega) (by simp; omega) l2
  by_cases c18 : 401 ≤ num cs 18
  · exact fin _ _ _ (by simp; omega) (by simp; omega) l3
  by_cases c11 : num cs 11 < 3
  · by_cases d13 : num cs 13 < 16385
    · by_cases d5 : 11 ≤ num cs 5
      · exact fin _ _ _ (by simp; omega) (by simp; omega) m2
      by_cases d9 : 11 ≤ num cs 9
      · exact fin _ _ _ (by simp; omega) (by simp; omega) m3
      · exact fin _ _ _ (by simp) (by simp; omega) m4
    · by_cases e13 : num cs 13 < 1048577
      · exact fin _ _ _ (by simp; omega) (by simp; omega) m1
      by_cases d5 : 11 ≤ num cs 5
      · exact fin _ _ _ (by simp; omega) (by simp; omega) m5
      by_cases d9 : 11 ≤ num cs 9
      · exact fin _ _ _ (by simp; omega) (by simp; omega) m6
      · exact fin _ _ _ (by simp; omega) (by simp; omega) m7
  · by_cases e11 : num cs 11 < 9
    · exact fin _ _ _ (by simp; omega) (by simp; omega) l4
    by_cases d13 : num cs 13 < 16385
    · by_cases d5 : 11 ≤ num cs 5
      · exact fin _ _ _ (by simp; omega) (by simp; omega) n2
      by_cases d9 : 11 ≤ num cs 9
      · exact fin _ _ _ (by simp; omega) (by simp; omega) n3
      · exact fin _ _ _ (by simp; omega) (by simp; omega) n4
    · by_cases e13 : num cs 13 < 1048577
      · exact fin _ _ _ (by simp; omega) (by simp; omega) n1
      by_cases d5 : 11 ≤ num cs 5
      · exact fin _ _ _ (by simp; omega) (by simp; omega) n5
      by_cases d9 : 11 ≤ num cs 9
      · exact fin _ _ _ (by simp; omega) (by simp; omega) n6
      · exact fin _ _ _ (by simp; omega) (by simp; omega) n7
end Go.Proofs.YtoiclimflfdaeaaGreatDoor
