/- New blocks do not change what a quiet operation comes to. No conditions. -/
import Derived.Test.YtoiclimflfdaeaaGreatDoorEvM3
set_option linter.unusedSimpArgs false
set_option linter.unusedVariables false
set_option linter.constructorNameAsVariable false
namespace Go.Ev
open Go.RowKit (Below)

section
variable {E : Env} {w0 : World} {J : Jn} {h : Hp} {w : World} {lo : Nat} {ops : Array Oper} {listed : Nat} {pend : List Pend} {T : Tr AV} {n : Nat} {a : Act} {X : Array Bool} {rest : List Nat}

theorem aop_eq (hm : E.more = false) {ρ : Operand → AV} {o : Oper} : aop E h ρ o = aopA E h ρ o := by
  unfold aop
  rw [hm]
  cases aopA E h ρ o <;> rfl

theorem len_grow {P : Program} {h2 : Hp} (hmap : ∀ m r, mapOf? h m = some r → mapOf? h2 m = some r) {ats : Array TypeId} {args : List AV} {v : AV} (ha : builtinA? P h .len ats args = some (.value v, h)) :
    builtinA? P h2 .len ats args = some (.value v, h2) := by
  have h1 : ∀ n, len? P h ats args = some n → len? P h2 ats args = some n := by
    intro n hlen
    unfold len? at hlen ⊢
    (repeat' split at hlen) <;> first
      | (simp at hlen; done)
      | (rename_i e; simp_all [hmap _ _ e]; done)
      | (simp_all; done)
  have h3 : ∀ i, olen? P ats args = some i → len? P h2 ats args = none := by
    intro i hi
    unfold olen? at hi
    split at hi
    · rename_i t i0 h0
      split at hi
      · rename_i e hu
        unfold len?
        simp [h0, hu, slice?]
      · simp at hi
    · simp at hi
  unfold builtinA? at ha ⊢
  simp only at ha ⊢
  split at ha
  · rename_i n hn
    rw [h1 n hn]
    simp at ha; subst ha; rfl
  · split at ha
    · rename_i i hi
      rw [h3 i hi]
      simp at ha; subst ha
      simp [hi]
    · simp at ha

/-- New blocks do not change what is found in the old ones. -/
theorem quiet_grow {h2 : Hp} (hg : ∀ b o, h.get b = some o → h2.get b = some o) {ρ : Operand → AV} {o : Oper} {v : AV} (hq : quiet o = true) (ha : aopA E h ρ o = some (.value v, h)) :
    aopA E h2 ρ o = some (.value v, h2) := by
  by_cases hl : looks o = true
  · have hc : ∀ b l, h.cells b = some l → h2.cells b = some l := by
      intro b l e
      obtain ⟨o, ho⟩ := cells_get e
      unfold Hp.cells at e ⊢
      rw [hg _ _ ho]
      rw [ho] at e
      exact e
    have hmap : ∀ m r, mapOf? h m = some r → mapOf? h2 m = some r := by
      intro m r e
      unfold mapOf? at e ⊢
      split at e
      · exact e
      · split at e
        · rename_i hh; simp only [hg _ _ hh]; exact e
        · simp at e
      · simp at e
    unfold looks at hl
    unfold quiet at hq
    unfold aopA at ha ⊢
    cases ho : o.op with
    | load t x =>
      rw [ho] at ha
      simp only at ha ⊢
      split at ha
      · rename_i v' hv
        have : load? E.P h2 t (ρ x) = some v' := by
          unfold load? at hv ⊢
          split at hv
          · split at hv
            · rename_i hcc; simp only [hc _ _ hcc]; exact hv
            · simp at hv
          · simp at hv
        simp at ha; subst ha
        rw [this]
      · simp at ha
    | lookup t m k ok =>
      rw [ho] at ha
      simp only at ha ⊢
      split at ha
      · rename_i v' hv
        have : lookup? E.P h2 t (ρ m) (ρ k) ok = some v' := by
          unfold lookup? at hv ⊢
          split at hv
          · rename_i e1 e2 e3
            rw [e1, hmap _ _ e2, e3]
            exact hv
          · simp at hv
        simp at ha; subst ha
        rw [this]
      · simp at ha
    | slice t x l hi mx =>
      rw [ho] at ha
      simp only at ha ⊢
      split at ha
      · simp at ha; subst ha; rfl
      · split at ha
        · rename_i hp v' hv
          have : slice1? E.P h2 t (ρ x) (optAV ρ l) (optAV ρ hi) (optAV ρ mx) = some v' := by
            unfold slice1? at hv ⊢
            split at hv
            · exact hv
            · rename_i e1 e2
              simp only [cond_eq_ite] at hv ⊢
              split at hv
              · exact hv
              · split at hv
                · split at hv
                  · rename_i hgg; simp only [hg _ _ hgg]; simp_all
                  · simp at hv
                · simp_all
              · simp at hv
            · exact hv
            · exact hv
            · simp at hv
          simp at ha; subst ha
          rw [this]
        · simp at ha
    | call c =>
      obtain ⟨callee, args, ats⟩ := c
      rw [ho] at ha hq
      cases callee with
      | value f => simp at hq
      | invoke r m => simp at hq
      | builtin b =>
        cases b <;> first
          | (simp at hq; done)
          | (simp only at ha ⊢
             (repeat' split at ha) <;> first
              | (simp at ha; done)
              | (simp at ha; subst ha; simp_all; done)
              | exact len_grow hmap ha
              | (simp [builtinA?] at ha; done))
    | entry it => rw [ho] at ha; simp at ha
    | _ => rw [ho] at hl; simp at hl
  · exact quiet_blind hq (by simpa using hl) ha

end
end Go.Ev
