/- A plain operation leaves alone what is not surely there yet. No conditions. -/
import Derived.Test.YtoiclimflfdaeaaGreatDoorEvOps10
set_option linter.unusedSimpArgs false
set_option linter.unusedVariables false
set_option linter.constructorNameAsVariable false
namespace Go.Ev

/-- What is not yet surely there is left alone. -/
def Keeps (h h' : Hp) : Prop := h.nx ≤ h'.nx ∧ ∀ b o, h.H.find b = some (true, o) → h'.H.find b = some (true, o)

theorem Keeps.refl (h : Hp) : Keeps h h := ⟨Nat.le_refl _, fun _ _ e => e⟩
theorem Keeps.trans {a b c : Hp} (h : Keeps a b) (k : Keeps b c) : Keeps a c := ⟨Nat.le_trans h.1 k.1, fun x o e => k.2 x o (h.2 x o e)⟩

/-- Names are numbers below the next one. -/
def Small (h : Hp) : Prop := h.nx ≤ 1000000 ∧ ∀ b f o, h.H.find b = some (f, o) → b < h.nx

theorem HR.small {w0 : World} {J : Jn} {h : Hp} {w : World} (hr : HR w0 J h w) : Small h := ⟨hr.nx, hr.ent⟩

section
variable {P : Program} {h h' : Hp}

theorem put_keeps (hs : Small h) {b : Nat} {o o' : AObj} (hg : h.get b = some o) : Keeps h (h.put b o') := by
  have hf := get_eq.1 hg
  refine ⟨Nat.le_refl _, fun c x e => ?_⟩
  unfold Hp.put
  show (h.H.upd bits b _).find c = _
  rw [find_upd (by have := hs.1; have := hs.2 _ _ _ hf; omega)]
  split
  · rename_i ec; subst ec; rw [hf] at e; simp at e
  · exact e

theorem drop_keeps (hs : Small h) {b : Nat} {o : AObj} (hg : h.get b = some o) : Keeps h (h.drop b) := by
  have hf := get_eq.1 hg
  refine ⟨Nat.le_refl _, fun c x e => ?_⟩
  unfold Hp.drop
  show (h.H.upd bits b _).find c = _
  rw [find_upd (by have := hs.1; have := hs.2 _ _ _ hf; omega)]
  split
  · rename_i ec; subst ec; rw [hf] at e; simp at e
  · exact e

theorem drop_small (hs : Small h) {b : Nat} {o : AObj} (hg : h.get b = some o) : Small (h.drop b) := by
  have hf := get_eq.1 hg
  refine ⟨hs.1, fun c f x e => ?_⟩
  have : (h.H.upd bits b none).find c = some (f, x) := e
  rw [find_upd (by have := hs.1; have := hs.2 _ _ _ hf; omega)] at this
  split at this
  · simp at this
  · exact hs.2 _ _ _ this

theorem new_keeps (hs : Small h) {b : Nat} {o : AObj} (hn : h.new o = some (b, h')) : Keeps h h' := by
  obtain ⟨rfl, hlt, rfl⟩ := new_eq hn
  refine ⟨by simp, fun c x e => ?_⟩
  show (h.H.upd bits h.nx _).find c = _
  rw [find_upd (by omega)]
  split
  · rename_i ec; subst ec; have := hs.2 _ _ _ e; omega
  · exact e

theorem cells_get {b : Nat} {l : List AV} (hc : h.cells b = some l) : ∃ o, h.get b = some o := by
  unfold Hp.cells at hc
  split at hc
  · exact ⟨_, by assumption⟩
  · exact ⟨_, by assumption⟩
  · exact ⟨_, by assumption⟩
  · simp at hc

theorem setCells_keeps (hs : Small h) {b : Nat} {l : List AV} (hc : h.setCells b l = some h') : Keeps h h' := by
  unfold Hp.setCells at hc
  split at hc
  · rename_i hg; simp at hc; subst hc; exact put_keeps hs hg
  · rename_i hg; simp at hc; subst hc; exact put_keeps hs hg
  · simp at hc

theorem store_keeps (hs : Small h) {t : TypeId} {a x : AV} (hl : store? P h t a x = some h') : Keeps h h' := by
  unfold store? at hl
  simp only [cond_eq_ite] at hl
  (repeat' split at hl) <;> first | (simp at hl; done) | exact setCells_keeps hs hl

theorem append_keeps (hs : Small h) {ats : Array TypeId} {args : List AV} {v : AV} (hl : append? P h ats args = some (v, h')) : Keeps h h' := by
  unfold append? at hl
  simp only [cond_eq_ite] at hl
  (repeat' split at hl) <;> first
    | (simp at hl; done)
    | (simp at hl; obtain ⟨_, rfl⟩ := hl; exact Keeps.refl h)
    | (rename_i hn; simp at hl; obtain ⟨_, rfl⟩ := hl; exact new_keeps hs hn)
    | (rename_i hg _ _ _ _ _ _ _ hn; simp at hl; obtain ⟨_, rfl⟩ := hl; exact (drop_keeps hs hg).trans (new_keeps (drop_small hs hg) hn))
    | (rename_i hn; simp at hl; obtain ⟨_, rfl⟩ := hl; exact setCells_keeps hs hn)

theorem copy_keeps (hs : Small h) {ats : Array TypeId} {args : List AV} {v : AV} (hl : copy? P h ats args = some (v, h')) : Keeps h h' := by
  unfold copy? at hl
  simp only [cond_eq_ite] at hl
  (repeat' split at hl) <;> first
    | (simp at hl; done)
    | (simp at hl; obtain ⟨_, rfl⟩ := hl; exact Keeps.refl h)
    | (rename_i hn; simp at hl; obtain ⟨_, rfl⟩ := hl; exact setCells_keeps hs hn)

theorem clear_keeps (hs : Small h) {ats : Array TypeId} {args : List AV} (hl : clear? P h ats args = some h') : Keeps h h' := by
  unfold clear? at hl
  simp only [cond_eq_ite] at hl
  (repeat' split at hl) <;> first
    | (simp at hl; done)
    | (simp at hl; subst hl; exact Keeps.refl h)
    | (rename_i hg; simp at hl; subst hl; exact put_keeps hs hg)
    | exact setCells_keeps hs hl

theorem buildSlice_keeps (hs : Small h) {t : TypeId} {n : Nat} {ps : List (Nat × AV)} {v : AV} (hl : buildSlice? P h t n ps = some (v, h')) : Keeps h h' := by
  unfold buildSlice? at hl
  simp only [cond_eq_ite] at hl
  (repeat' split at hl) <;> first
    | (simp at hl; done)
    | (rename_i hn; simp at hl; obtain ⟨_, rfl⟩ := hl; exact new_keeps hs hn)

theorem makeSlice_keeps (hs : Small h) {t : TypeId} {l c v : AV} (hl : makeSlice? P h t l c = some (v, h')) : Keeps h h' := by
  unfold makeSlice? at hl
  simp only [cond_eq_ite] at hl
  (repeat' split at hl) <;> first
    | (simp at hl; done)
    | (rename_i hn; simp at hl; obtain ⟨_, rfl⟩ := hl; exact new_keeps hs hn)

theorem mapUpdate_keeps (hs : Small h) {t : TypeId} {m k x : AV} (hl : mapUpdate? P h t m k x = some h') : Keeps h h' := by
  unfold mapUpdate? at hl
  simp only [cond_eq_ite] at hl
  split at hl
  · split at hl
    · rename_i hg
      (repeat' split at hl) <;> first
        | (simp at hl; done)
        | (simp at hl; subst hl; exact put_keeps hs hg)
    · simp at hl
  · simp at hl

theorem builtinA_keeps (hs : Small h) {b : Builtin} {ats : Array TypeId} {args : List AV} {r : AOut} (hl : builtinA? P h b ats args = some (r, h')) : Keeps h h' := by
  unfold builtinA? at hl
  split at hl
  · split at hl
    · rename_i hn; simp at hl; obtain ⟨_, rfl⟩ := hl; exact append_keeps hs hn
    · simp at hl
  · split at hl
    · rename_i hn; simp at hl; obtain ⟨_, rfl⟩ := hl; exact copy_keeps hs hn
    · simp at hl
  · split at hl
    · simp at hl; obtain ⟨_, rfl⟩ := hl; exact Keeps.refl h
    · split at hl
      · simp at hl; obtain ⟨_, rfl⟩ := hl; exact Keeps.refl h
      · simp at hl
  · split at hl
    · rename_i hn; simp at hl; obtain ⟨_, rfl⟩ := hl; exact clear_keeps hs hn
    · simp at hl
  · simp at hl

end

theorem aopA_keeps {E : Env} {h h' : Hp} (hs : Small h) {ρ : Operand → AV} {o : Oper} {r : AOut} (hl : aopA E h ρ o = some (r, h')) : Keeps h h' := by
  unfold aopA at hl
  dsimp only at hl
  split at hl
  all_goals try (
    (repeat' split at hl) <;> first
      | (simp at hl; done)
      | (simp at hl; obtain ⟨_, rfl⟩ := hl; exact Keeps.refl h)
      | (rename_i hn; simp at hl; obtain ⟨_, rfl⟩ := hl; exact new_keeps hs hn)
      | (rename_i hn; simp at hl; obtain ⟨_, rfl⟩ := hl; exact store_keeps hs hn)
      | (rename_i hn; simp at hl; obtain ⟨_, rfl⟩ := hl; exact buildSlice_keeps hs hn)
      | (rename_i hn; simp at hl; obtain ⟨_, rfl⟩ := hl; exact makeSlice_keeps hs hn)
      | (rename_i hn; simp at hl; obtain ⟨_, rfl⟩ := hl; exact mapUpdate_keeps hs hn)
      | exact builtinA_keeps hs hl)
end Go.Ev
