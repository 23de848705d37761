/- Each step of the evaluator is some steps of the model, and so are many steps. Condition: what the evaluator is told of functions without a walk is true. -/
import Derived.Test.YtoiclimflfdaeaaGreatDoorEvM9
set_option linter.unusedSimpArgs false
set_option linter.unusedVariables false
set_option linter.constructorNameAsVariable false
namespace Go.Ev
open Go.RowKit (Below)

section
variable {E : Env} {w0 : World} {cs0 : List Frame} {J : Jn} {h : Hp} {w : World} {lo : Nat} {T : Tr AV} {n : Nat}

theorem asBool_eq {J : Jn} {x : AV} {c : Value} {b : Bool} (hx : VR J x c) (h : asBool? x = some b) : c = .bool b := by
  unfold asBool? at h
  split at h
  · simp [VR] at hx; simp at h; rw [hx, h]
  · simp at h

/-- One step. -/
theorem astep_sound (hE : E.Ok w0) (hm : E.more = false) {s s' : ASt} {m : Machine} (hs : SR E w0 cs0 s m) (hst : astep E s = some s') : ∃ m', Steps E.P m m' ∧ SR E w0 cs0 s' m' := by
  obtain ⟨⟨fn, T, n, todo, defers, mode, kind, round⟩, cs, h⟩ := s
  obtain ⟨J, w, f, fs, lo, rfl, hh, hg, hlo, rfl, rfl, rfl, htop, hcs⟩ := hs
  cases htop with
  | @ret b a k hf hk ha ht =>
    simp only [astep] at hst
    split at hst
    · rename_i v hv
      obtain ⟨g, c, hgf, hvc, hrun⟩ := resultOf_sound hh ht hv
      unfold returnA at hst
      split at hst
      · rename_i fn' T' n' todo' defers' mode' kind' round' cs'
        simp only at hst
        split at hst
        · obtain ⟨b', a', k', fs', lo', rfl, hfr, hmode, hlo', hw, hcs'⟩ := hcs
          have hleave : Frame.leaving E.P { b.at a k with mode := .returning } w (.returned c) :=
            ⟨rfl, by simpa [Frame.at] using ha, by simpa [Frame.at] using hk, g, by simpa [Frame.at, hf] using hgf, by simpa [Frame.at] using hrun⟩
          exact ⟨_, .one (step_leave_returned hleave), goOn_sound hm hh hg hfr hlo' hlo hw hcs' hvc hst⟩
        · simp at hst
      · simp at hst
    · simp at hst
  | @run b a k hf hk ha ht =>
    have hfr : FrameIs fn [] .normal none b a := ⟨hf, hk, ha, rfl, rfl, rfl⟩
    -- a plain move
    have move : ∀ {todo' : List AItem} {k' : List Item}, some (⟨⟨fn, T, n, todo', [], .run, .normal, none⟩, cs, h⟩ : ASt) = some s' → TR J T n a.tmps → IR todo' k' →
        step E.P (lone (b.at a k) fs w) = .next (lone (b.at a k') fs w) → ∃ m', Steps E.P (lone (b.at a k) fs w) m' ∧ SR E w0 cs0 s' m' := by
      intro todo' k' e h2 h3 h1
      simp at e; subst e
      exact ⟨_, .one h1, J, w, _, fs, lo, rfl, hh, hg, hlo, rfl, rfl, rfl, .run hf hk ha (.plain h2 h3), hcs⟩
    cases ht with
    | @dreg ops listed pend X rest l k hr hl hi =>
      simp only [astep] at hst
      exact dreg_sound hE hm hh hg hfr hlo hr hl hi hcs hst
    | plain ht hi =>
      cases todo with
      | nil =>
        simp only [IR] at hi
        subst hi
        simp only [astep, leaveA] at hst
        simp at hst; subst hst
        exact ⟨_, .one step_end, J, w, _, fs, lo, rfl, hh, hg, hlo, rfl, rfl, rfl, .ret hf hk ha ht, hcs⟩
      | cons it l =>
        cases it with
        | inBlock id =>
          obtain ⟨r, rfl, hr⟩ := hi
          simp only [astep] at hst
          exact move hst ht hr step_inBlock
        | inScope c =>
          obtain ⟨r, rfl, hr⟩ := hi
          simp only [astep] at hst
          exact move hst ht hr (step_lone_go (by simp [stepG, stepG.exec, Frame.at]))
        | inLoop c =>
          obtain ⟨r, rfl, hr⟩ := hi
          simp only [astep] at hst
          exact move hst ht ⟨_, rfl, _, rfl, hr⟩ step_inLoop
        | reg ops i t =>
          obtain ⟨r, rfl, hd, hr⟩ := hi
          cases t with
          | nil =>
            simp only [astep] at hst
            exact move hst ht hr (by simp only [List.length_nil, List.range'_zero]; exact step_region_end)
          | cons o t =>
            simp only [astep] at hst
            have ho : ops[i]? = some o := by
              have : (ops.toList.drop i)[0]? = some o := by rw [hd]; rfl
              simpa using this
            have hk' : List.range' i (o :: t).length = i :: List.range' (i + 1) t.length := by simp [List.range'_succ]
            rw [hk']
            exact exec_sound hE hm ho (fun d _ => ht.2.2 d (fun f => f)) hh hg hfr hlo (.plain ht hd hr) hcs hst
        | dreg _ _ _ _ => simp [IR] at hi
        | inRangeFunc _ => simp [IR] at hi
        | endRangeFunc _ => simp [IR] at hi
        | beginRound => simp [IR] at hi
        | code c =>
          obtain ⟨r, rfl, hr⟩ := hi
          cases c with
          | skip =>
            simp only [astep] at hst
            exact move hst ht hr step_skip
          | label id =>
            simp only [astep] at hst
            exact move hst ht hr step_label
          | seq x y =>
            simp only [astep] at hst
            exact move hst ht ⟨_, rfl, _, rfl, hr⟩ step_seq
          | block id x =>
            simp only [astep] at hst
            exact move hst ht ⟨_, rfl, _, rfl, hr⟩ step_block
          | loop x =>
            simp only [astep] at hst
            exact move hst ht ⟨_, rfl, _, rfl, hr⟩ step_loop
          | scope x =>
            simp only [astep] at hst
            exact move hst ht ⟨_, rfl, _, rfl, hr⟩ (step_lone_go (by simp [stepG, stepG.exec, Frame.at]))
          | cond c x y =>
            simp only [astep] at hst
            have hc : ∀ {t : Bool}, asBool? (evalA E T c) = some t → a.eval c = .bool t := by
              intro t e
              refine asBool_eq (J := J) ?_ e
              cases c with
              | tmp t => exact ht.2.2 t (fun f => f)
              | const v => exact VR.vv v
              | global g =>
                simp only [evalA, cond_eq_ite]
                split
                · rename_i e
                  obtain ⟨K, e⟩ := hg.glob g e
                  exact ⟨g, K, e, rfl⟩
                · exact VR.vv _
              | func f => exact VR.vv _
            split at hst
            · rename_i e
              exact move hst ht ⟨_, rfl, hr⟩ (by simpa using step_cond (x := x) (y := y) (hc e))
            · rename_i e
              exact move hst ht ⟨_, rfl, hr⟩ (by simpa using step_cond (x := x) (y := y) (hc e))
            · simp at hst
          | exit id =>
            simp only [astep] at hst
            split at hst
            · rename_i l' e
              obtain ⟨k', h1, h2⟩ := exit_sound hr e
              exact move hst ht h2 (step_exit h1)
            · simp [leaveA] at hst
          | goto id =>
            simp only [astep] at hst
            split at hst
            · rename_i l' e
              obtain ⟨k', h1, h2⟩ := goto_sound hr e
              exact move hst ht h2 (step_goto h1)
            · simp [leaveA] at hst
          | ret =>
            simp only [astep, leaveA] at hst
            simp at hst; subst hst
            exact ⟨_, .one step_ret, J, w, _, fs, lo, rfl, hh, hg, hlo, rfl, rfl, rfl, .ret hf hk ha ht, hcs⟩
          | refuse x => simp [astep] at hst
          | rangeFunc f ps x y => simp [astep, hm] at hst
          | region id ops dr =>
            cases dr with
            | false =>
              simp only [astep] at hst
              exact move hst ht ⟨_, by rw [List.range_eq_range']; simp, by simp, hr⟩ step_region
            | true =>
              simp only [astep] at hst
              simp at hst; subst hst
              have hh2 : HR w0 J h { w with drawn := w.drawn + 1 } := hh.drawn rfl rfl rfl rfl
              refine ⟨_, .one step_region_draw, J, _, _, fs, lo, rfl, hh2, hg, hlo, rfl, rfl, rfl, .run hf hk ha (.dreg (X := Array.replicate ops.size false) ⟨by simp, ?_, ?_, ?_, trivial, ⟨ht.1, ht.2.1, fun t _ => ht.2.2 t (fun f => f)⟩, ?_, ?_, ?_⟩ ?_ hr), hcs⟩
              · rw [Region.schedule, hE.mixed]
                simp only [Bool.true_or, if_true]
                exact sched_start ops _
              · intro i _ hi; simp [hi]
              · intro i hi; simp at hi
              · intro m hm; simp at hm
              · intro m hm; simp at hm
              · intro m hm; simp at hm
              · intro m hm; simp at hm

/-- Many steps. -/
theorem arun_sound (hE : E.Ok w0) (hm : E.more = false) : ∀ (k : Nat) {s : ASt} {m : Machine}, SR E w0 cs0 s m → ∀ {s' : ASt}, (arun E k s = .next s' ∨ arun E k s = .stop s') → ∃ m', Steps E.P m m' ∧ SR E w0 cs0 s' m'
  | 0, s, m, hs, s', h => by
    simp only [arun] at h
    split at h
    · rename_i s1 e
      simp at h; subst h
      exact astep_sound hE hm hs e
    · simp at h; subst h
      exact ⟨m, .refl _ _, hs⟩
  | k + 1, s, m, hs, s', h => by
    simp only [arun] at h
    split at h
    · rename_i s1 e
      obtain ⟨m1, p1, q1⟩ := arun_sound hE hm k hs (.inl e)
      obtain ⟨m2, p2, q2⟩ := arun_sound hE hm k q1 h
      exact ⟨m2, p1.trans p2, q2⟩
    · rename_i s1 e
      simp at h; subst h
      exact arun_sound hE hm k hs (.inr e)

end
end Go.Ev
