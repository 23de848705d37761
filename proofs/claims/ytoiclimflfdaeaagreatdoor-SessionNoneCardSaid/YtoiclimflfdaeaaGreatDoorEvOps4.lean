/- Operations of the evaluator come to what the model comes to (part 4). Condition: the memory is as the evaluator is told. -/
import Derived.Test.YtoiclimflfdaeaaGreatDoorEvOps3
import Derived.Orders
set_option linter.unusedSimpArgs false
set_option linter.unusedVariables false
set_option linter.constructorNameAsVariable false
namespace Go.Ev
open Go.RowKit (Below)

section
variable {P : Program} {w0 : World} {J : Jn} {h h' : Hp} {w : World}

/-- A new block, as an operation makes it. -/
theorem HR.newObj (hr : HR w0 J h w) {b : Nat} {o : AObj} (hn : h.new o = some (b, h')) (obj : Obj) (K : Nat) (hs : ∀ J', Jext J J' → Sat J' { w with heap := w.heap.push obj } w.heap.size K o) :
    ∃ J', Jgr h.nx J J' ∧ HR w0 J' h' { w with heap := w.heap.push obj } ∧ J' b = some (w.heap.size, K) := by
  have hJn : Jext J (Jset J b (w.heap.size, K)) := Jset.ext (by obtain ⟨rfl, _, _⟩ := new_eq hn; exact hr.fr _ (Nat.le_refl _))
  obtain ⟨hr2, hext⟩ := hr.new hn obj K (hs _ hJn)
  exact ⟨_, jgr_new hn hext, hr2, by simp [Jset]⟩

theorem alloc_sound (hr : HR w0 J h w) {e : TypeId} {z : Value} {b : Nat} (hz : zero? P e = some z) (hn : h.new (.cells ((AV.v z).cells) e) = some (b, h')) :
    ∃ J' w' c, Jgr h.nx J J' ∧ HR w0 J' h' w' ∧ VR J' (.ptr b 0) c ∧ (Instr.alloc e true (.tuple #[])).run P w = .ok c w' := by
  obtain ⟨J', hext, hr2, hb⟩ := hr.newObj hn (.cells z.cells e) 0 (fun J' _ => ⟨z.cells.toList, zcells J' z, by simp⟩)
  refine ⟨J', _, _, hext, hr2, ⟨_, _, hb, rfl⟩, ?_⟩
  simp [Instr.alloc, run_zero w hz, newVar, newRow]

theorem box_sound (hr : HR w0 J h w) {e : TypeId} {x : AV} {c : Value} {b : Nat} (hx : VR J x c) (hn : h.new (.cells x.cells e) = some (b, h')) :
    ∃ J' w' c', Jgr h.nx J J' ∧ HR w0 J' h' w' ∧ VR J' (.ptr b 0) c' ∧ (Instr.box e c).run P w = .ok c' w' := by
  obtain ⟨J', hext, hr2, hb⟩ := hr.newObj hn (.cells c.cells e) 0 (fun J' hJ => ⟨c.cells.toList, (cells_rel hx).mono hJ, by simp⟩)
  refine ⟨J', _, _, hext, hr2, ⟨_, _, hb, rfl⟩, ?_⟩
  simp [Instr.box, newVar, newRow]

theorem makeMap_sound (hr : HR w0 J h w) {b : Nat} (hn : h.new (.map [] 0) = some (b, h')) :
    ∃ J' w' c', Jgr h.nx J J' ∧ HR w0 J' h' w' ∧ VR J' (.map b) c' ∧ (do pure (.map (some (← newObj (.map #[] 0)))) : Sem Value).run P w = .ok c' w' := by
  obtain ⟨J', hext, hr2, hb⟩ := hr.newObj hn (.map #[] 0) 0 (fun J' _ => ⟨[], by simp [ER], by simp⟩)
  refine ⟨J', _, _, hext, hr2, ⟨_, _, hb, rfl⟩, ?_⟩
  simp

theorem wrap_small {n : Nat} (h : n ≤ 1000000) : IntKind.i64.wrap (n : Int) = n := by
  simp [IntKind.wrap, IntKind.bits, IntKind.signed]
  omega

theorem asNat_eq {x : AV} {n : Nat} {c : Value} (hx : VR J x c) (h : asNat? x = some n) : ∃ k, c = .int k n := by
  unfold asNat? at h
  split at h
  · rename_i k m
    simp [VR] at hx; subst hx
    simp at h; subst h
    exact ⟨k, rfl⟩
  · simp at h

theorem run_asInt (w : World) (k : IntKind) (n : Int) : (asInt (.int k n)).run P w = .ok n w := by simp [asInt, asIntOf]

theorem makeSlice_sound (hr : HR w0 J h w) {t : TypeId} {l c v : AV} {cl cc : Value} (hl : VR J l cl) (hc : VR J c cc) (hm : makeSlice? P h t l c = some (v, h')) :
    ∃ J' w' c', Jgr h.nx J J' ∧ HR w0 J' h' w' ∧ VR J' v c' ∧ (Instr.makeSlice t cl cc).run P w = .ok c' w' := by
  unfold makeSlice? at hm
  split at hm
  · rename_i elem l0 c0 hu hl0 hc0
    obtain ⟨k1, rfl⟩ := asNat_eq hl hl0
    obtain ⟨k2, rfl⟩ := asNat_eq hc hc0
    split at hm
    · rename_i size bytes z hsz hby hze
      rw [cond_eq_ite] at hm
      split at hm
      · rename_i hcond
        simp at hcond
        obtain ⟨⟨⟨⟨h1, h2⟩, h3⟩, h4⟩, h5⟩ := hcond
        have hzl : z.cells.toList.length = size := (zcells J z).length.trans h4
        split at hm
        · rename_i b h2' hn
          simp at hm
          obtain ⟨rfl, rfl⟩ := hm
          obtain ⟨i, hi, hib⟩ := run_bytes w hby
          have hz : z.cells.size = size := by simpa using hzl
          have harr : (Array.range (c0 * size)).map (fun i => z.cells[i % z.cells.size]!) = (repl c0 z.cells.toList).toArray := by
            apply Array.ext'
            rw [← hz, range_map_repl]
          have hmul : i.bytes * c0 ≤ 4096 * 4096 := by rw [hib]; exact Nat.mul_le_mul h3 h2
          have hmul2 : i.bytes * l0 ≤ 4096 * 4096 := by rw [hib]; exact Nat.mul_le_mul h3 (Nat.le_trans h1 h2)
          obtain ⟨J', hext, hr2, hb⟩ := hr.newObj hn (.cells (repl c0 z.cells.toList).toArray elem) 0 (fun J' hJ => ⟨_, repl_VRs (zcells J' z) c0, by simp⟩)
          refine ⟨J', _, _, hext, hr2, ⟨_, _, hb, rfl⟩, ?_⟩
          have wl := wrap_small (n := l0) (by omega)
          have wc := wrap_small (n := c0) (by omega)
          have hbc : ¬ ((i.bytes : Int) * c0 > 2 ^ 48) := by
            have h7 : ((i.bytes * c0 : Nat) : Int) ≤ ((4096 * 4096 : Nat) : Int) := Int.ofNat_le.2 hmul
            rw [Int.natCast_mul] at h7
            omega
          have hcond2 : ((decide ((c0 : Int) < 0) || decide ((i.bytes : Int) * c0 > 2 ^ 48)) || decide ((l0 : Int) < 0) || decide ((l0 : Int) > c0)) = false := by
            simp only [Bool.or_eq_false_iff, decide_eq_false_iff_not]
            omega
          simp only [Instr.makeSlice, Sem.run_bind, run_und w hu, Result.andThen_ok, run_asInt, hi, wl, wc, hcond2, Bool.false_eq_true, if_false, Sem.run_ite, Sem.run_pure, run_askRoom, Int.toNat_natCast, run_size w hsz, newRow, run_newObj]
          by_cases hc00 : c0 * size = 0
          · have : c0 = 0 := by
              rcases Nat.mul_eq_zero.1 hc00 with h | h
              · exact h
              · omega
            subst this
            have e0 : Array.range 0 = #[] := by apply Array.ext'; simp
            simp [hc00, repl, e0]
          · simp only [hc00, if_false, run_zero w hze, Result.andThen_ok, harr]
        · simp at hm
      · simp at hm
    · simp at hm
  · simp at hm

theorem index_run {t : TypeId} {x i v : AV} {cx ci : Value} (hx : VR J x cx) (hi : VR J i ci) (hm : indexAddr? P t x i = some v) : ∃ c, VR J v c ∧ (Instr.indexAt t cx ci).run P w = .ok c w := by
  unfold indexAddr? at hm
  split at hm
  · rename_i n hn
    obtain ⟨k, rfl⟩ := asNat_eq hi hn
    split at hm
    · rename_i len elem hu
      split at hm
      · rename_i b off size hsz
        rw [cond_eq_ite] at hm
        split at hm
        · rename_i hlt
          simp at hlt hm
          subst hm
          obtain ⟨B, K, e, rfl⟩ := hx
          have hlt' : (n : Int) < len := by exact_mod_cast hlt
          refine ⟨.pointer (some ⟨B, off + n * size, none⟩), ⟨B, K, e, rfl⟩, ?_⟩
          simp [Instr.indexAt, asIntOf, run_und w hu, Instr.sureAddr, hlt, run_size w hsz, addr_add]
        · simp at hm
      · simp at hm
    · rename_i elem hu
      split at hm
      · rename_i s size hs hsz
        rw [cond_eq_ite] at hm
        split at hm
        · rename_i hlt
          simp at hlt hm
          subst hm
          obtain ⟨B, K, e, rfl, _⟩ := slice_some hx hs
          refine ⟨.pointer (some ⟨B, s.off + n * size, none⟩), ⟨B, K, e, rfl⟩, ?_⟩
          simp [Instr.indexAt, asIntOf, run_und w hu, hlt, run_size w hsz, addr_add]
        · simp at hm
      · simp at hm
    · simp at hm
  · simp at hm

theorem fieldAddr_run {t : TypeId} {x v : AV} {cx : Value} {i : Nat} (hx : VR J x cx) (hm : fieldAddr? P t x i = some v) : ∃ c, VR J v c ∧ (Instr.fieldAt t cx i).run P w = .ok c w := by
  unfold fieldAddr? at hm
  split at hm
  · rename_i fs b off hu
    split at hm
    · rename_i f hf
      split at hm
      · simp at hm
      · rename_i n hne hsz
        simp at hm; subst hm
        obtain ⟨B, K, e, rfl⟩ := hx
        refine ⟨.pointer (some ⟨B, off + f.offset, none⟩), ⟨B, K, e, rfl⟩, ?_⟩
        have hn : ¬ n = 0 := fun e => by subst e; first | exact hne rfl | exact hne hsz
        simp [Instr.fieldAt, run_und w hu, hf, Instr.sureAddr, fieldPlace, run_size w hsz, hn, addr_add]
      · simp at hm
    · simp at hm
  · simp at hm

theorem field_run {t : TypeId} {x v : AV} {cx : Value} {i : Nat} (hx : VR J x cx) (hm : field? P t x i = some v) : ∃ c, VR J v c ∧ (Instr.field t cx i).run P w = .ok c w := by
  unfold field? at hm
  split at hm
  · rename_i fs l hu
    split at hm
    · rename_i f hf
      obtain ⟨l', hl, rfl⟩ := hx
      obtain ⟨c, hc, hrun⟩ := part_sound (w := w) hl hm
      exact ⟨c, hc, by simp [Instr.field, run_und w hu, hf, asAgg, hrun]⟩
    · simp at hm
  · rename_i fs cs hu
    split at hm
    · rename_i f hf
      simp [VR] at hx; subst hx
      obtain ⟨c, hc, hrun⟩ := part_sound (w := w) (VRs.map_v (J := J) cs.toList) hm
      exact ⟨c, hc, by simpa [Instr.field, run_und w hu, hf, asAgg] using hrun⟩
    · simp at hm
  · simp at hm

theorem indexV_run {t : TypeId} {x i v : AV} {cx ci : Value} (hx : VR J x cx) (hi : VR J i ci) (hm : index? P t x i = some v) : ∃ c, VR J v c ∧ (Instr.index t cx ci).run P w = .ok c w := by
  unfold index? at hm
  split at hm
  · rename_i n elem l i0 hu hi0
    obtain ⟨k, rfl⟩ := asNat_eq hi hi0
    split at hm
    · rename_i size hsz
      rw [cond_eq_ite] at hm
      split at hm
      · rename_i hlt
        simp at hlt
        obtain ⟨l', hl, rfl⟩ := hx
        obtain ⟨c, hc, hrun⟩ := part_sound (w := w) hl hm
        exact ⟨c, hc, by simp [Instr.index, asIntOf, run_und w hu, hlt, run_size w hsz, hrun]⟩
      · simp at hm
    · simp at hm
  · simp at hm

theorem bound_run {x : Option AV} {cx : Option Value} {y d n : Nat} (hx : (x = none ∧ cx = none) ∨ ∃ a b, x = some a ∧ cx = some b ∧ VR J a b) (hb : bound? x y d = some n) :
    (x = none ∧ cx = none ∧ n = d) ∨ ∃ b, cx = some b ∧ n ≤ y ∧ ∀ code, (Instr.sliceBound b y code).run P w = .ok n w := by
  unfold bound? at hb
  rcases hx with ⟨rfl, rfl⟩ | ⟨a, b, rfl, rfl, hab⟩
  · simp at hb; exact .inl ⟨rfl, rfl, hb.symm⟩
  · refine .inr ⟨b, rfl, ?_⟩
    simp only at hb
    split at hb
    · rename_i i hi
      rw [cond_eq_ite] at hb
      split at hb
      · rename_i hle
        simp at hle hb
        subst hb
        obtain ⟨k, rfl⟩ := asNat_eq hab hi
        refine ⟨hle, fun code => ?_⟩
        simp [Instr.sliceBound, asIntOf, hle]
      · simp at hb
    · simp at hb

end
end Go.Ev
