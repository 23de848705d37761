/- Operations of the evaluator come to what the model comes to (part 2). Condition: the memory is as the evaluator is told. -/
import Derived.Test.YtoiclimflfdaeaaGreatDoorEvOps
import Derived.Laws.Strings2
set_option linter.unusedSimpArgs false
set_option linter.unusedVariables false
set_option linter.constructorNameAsVariable false
namespace Go.Ev
open Go.RowKit (Below)

/-! Slices. -/
theorem slice_none {J : Jn} {x : AV} {c : Value} (h : VR J x c) (hs : slice? x = some none) : c = .slice none 0 0 := by
  unfold slice? at hs
  split at hs
  · simpa [VR] using h
  all_goals simp at hs

theorem slice_some {J : Jn} {x : AV} {c : Value} {s : SlV} (h : VR J x c) (hs : slice? x = some (some s)) :
    ∃ B K, J s.b = some (B, K) ∧ c = .slice (some ⟨B, s.off, none⟩) s.len (if s.u then K - s.cap else s.cap) ∧ (s.u = true → s.off = s.cap * s.sz) := by
  unfold slice? at hs
  split at hs
  · simp at hs
  · obtain ⟨B, K, e, rfl⟩ := h
    simp at hs; subst hs
    exact ⟨B, K, e, by simp, by simp⟩
  · obtain ⟨B, K, e, rfl⟩ := h
    simp at hs; subst hs
    exact ⟨B, K, e, by simp, by simp⟩
  · simp at hs

theorem extract_all (s : ByteArray) : s.extract 0 s.size = s := by
  obtain ⟨⟨l⟩⟩ := s
  rw [ByteArray.extract_mk]
  simp [ByteArray.size]

theorem run_und' {P : Program} {t : TypeId} {d : TypeDesc} (h : P.underlying t = some d) (w : World) : (underlying t).run P w = .ok d w := run_und w h

theorem appended_sound {P : Program} {w0 : World} {J : Jn} {h : Hp} {w : World} (hr : HR w0 J h w) {x : AV} {cx : Value} {size n : Nat} {new : List AV} (hx : VR J x cx) (ha : appended? h size x = some (new, n)) :
    ∃ vs, VRs J new vs ∧ (Builtin.lenOf cx).run P w = .ok n w ∧ (Builtin.firstCells size n cx).run P w = .ok vs.toArray w ∧ vs.length = n * size := by
  unfold appended? at ha
  split at ha
  · rename_i b
    obtain ⟨B, K, o, cp, e, rfl⟩ := hx
    simp at ha
    obtain ⟨rfl, rfl⟩ := ha
    refine ⟨[], VRs.nil, by simp [Builtin.lenOf], ?_, by simp⟩
    simp [Builtin.firstCells, loadCells, loadCellsFrom]
  · rename_i s
    simp [VR] at hx; subst hx
    rw [cond_eq_ite] at ha
    split at ha
    · rename_i h1
      have h1 := of_beq h1
      subst h1
      simp at ha
      obtain ⟨rfl, rfl⟩ := ha
      refine ⟨s.data.toList.map fun b => .int .u8 b.toNat, ?_, by simp [Builtin.lenOf], ?_, by simp⟩
      · have := VRs.map_v (J := J) (s.data.toList.map fun b => Value.int .u8 b.toNat)
        simpa [Function.comp_def] using this
      · simp only [Builtin.firstCells, extract_all, Sem.run_pure]
        congr 1
        apply Array.ext'
        simp
    · simp at ha
  · split at ha
    · rename_i hs
      have := slice_none hx hs
      subst this
      simp at ha
      obtain ⟨rfl, rfl⟩ := ha
      exact ⟨[], VRs.nil, by simp [Builtin.lenOf], by simp [Builtin.firstCells], by simp⟩
    · rename_i sv hs
      obtain ⟨B, K, hJ, rfl, _⟩ := slice_some hx hs
      split at ha
      · rename_i l hc
        split at ha
        · rename_i r hsg
          simp at ha
          obtain ⟨rfl, rfl⟩ := ha
          obtain ⟨B', K', l', tl, e, fz, hJ', hv, hw⟩ := hr.cells hc
          rw [hJ] at hJ'; simp at hJ'; obtain ⟨rfl, rfl⟩ := hJ'
          have hb := (seg_eq hsg).2
          rw [← hv.length] at hb
          refine ⟨(l'.drop sv.off).take (sv.len * size), hv.seg hsg, by simp [Builtin.lenOf], ?_, ?_⟩
          · simp only [Builtin.firstCells]
            exact run_loads hw hb
          · simp; omega
        · simp at ha
      · simp at ha
    · simp at ha

theorem growBy_le (n : Nat) : ∀ (r c : Nat), c ≤ n + (n + 768) / 4 → Builtin.growBy n r c ≤ n + (n + 768) / 4
  | 0, c, h => by simpa [Builtin.growBy] using h
  | r + 1, c, h => by
    simp only [Builtin.growBy]
    split
    · exact h
    · exact growBy_le n r _ (by omega)

theorem nextcap_le {need cap : Nat} (h : cap < need) : Builtin.nextslicecap need cap ≤ nextBound need := by
  unfold Builtin.nextslicecap nextBound
  split
  · omega
  · split
    · omega
    · have := growBy_le need 4 cap (by omega)
      omega

theorem repl_length {α : Type} (z : List α) : ∀ n, (repl n z).length = n * z.length
  | 0 => by simp [repl]
  | n + 1 => by simp [repl, repl_length z n, Nat.succ_mul]; omega

theorem repl_get {α : Type} (z : List α) : ∀ (n i : Nat), i < n * z.length → (repl n z)[i]? = z[i % z.length]?
  | 0, i, h => by simp at h
  | n + 1, i, h => by
    simp only [repl]
    rw [List.getElem?_append]
    split
    · rename_i hlt; rw [Nat.mod_eq_of_lt hlt]
    · rename_i hge
      rw [repl_get z n _ (by rw [Nat.succ_mul] at h; omega)]
      congr 1
      exact (Nat.mod_eq_sub_mod (by omega)).symm

theorem range_map_repl (z : Array Value) (n : Nat) : ((Array.range (n * z.size)).map fun i => z[i % z.size]!).toList = repl n z.toList := by
  apply List.ext_getElem?
  intro i
  by_cases hi : i < n * z.size
  · rw [repl_get z.toList n i (by simpa using hi)]
    have hpos : 0 < z.size := by
      rcases Nat.eq_zero_or_pos z.size with h | h
      · simp [h] at hi
      · exact h
    have hm := Nat.mod_lt i hpos
    simp [hi, hm, getElem!_pos]
  · have h1 : (repl n z.toList).length ≤ i := by rw [repl_length]; simpa using hi
    rw [List.getElem?_eq_none h1]
    simp [hi]

theorem repl_VRs {J : Jn} {z : List AV} {c : List Value} (h : VRs J z c) : ∀ n, VRs J (repl n z) (repl n c)
  | 0 => by simp [repl, VRs]
  | n + 1 => by simpa [repl] using h.append (repl_VRs h n)

theorem zcells (J : Jn) (z : Value) : VRs J (AV.v z).cells z.cells.toList := cells_rel (VR.vv z)

end Go.Ev
