/- Operations of the evaluator come to what the model comes to (part 10). Condition: the memory is as the evaluator is told. -/
import Derived.Test.YtoiclimflfdaeaaGreatDoorEvOps9
set_option linter.unusedSimpArgs false
set_option linter.unusedVariables false
set_option linter.constructorNameAsVariable false
namespace Go.Ev
open Go.RowKit (Below)

section
variable {E : Env} {w0 : World} {J : Jn} {h h' : Hp} {w : World}

/-- One operation: what the evaluator comes to, the model comes to. -/
theorem aopA_sound (hE : E.Ok w0) (hm : E.more = false) (hg : GlobOk E J) (hr : HR w0 J h w) {ρ : Operand → AV} {ρc : Operand → Value} {o : Oper} {r : AOut} (hρ : ∀ x ∈ o.op.operands, VR J (ρ x) (ρc x)) (ha : aopA E h ρ o = some (r, h')) :
    ∃ J' w' n, Jgr h.nx J J' ∧ HR w0 J' h' w' ∧ OutR E w0 J' r n ∧ (execOp ρc o).run E.P w = .ok n w' := by
  obtain ⟨dst, op, type, pos, after, guard⟩ := o
  have same : ∀ {v : AV} {c : Value} {s : Sem Value}, VR J v c → s.run E.P w = .ok c w → ∃ J' w' n, Jgr h.nx J J' ∧ HR w0 J' h w' ∧ OutR E w0 J' (.value v) n ∧ (do pure (.value (← s)) : Sem Next).run E.P w = .ok n w' :=
    fun {v c s} hv hs => ⟨J, w, .value c, Jgr.refl _ J, hr, ⟨c, hv, rfl⟩, by simp [hs]⟩
  have pureCase : ∀ {x : AOut}, (∀ cs b, op ≠ .select cs b) → pureOp E.P ρ ⟨dst, op, type, pos, after, guard⟩ = some x → ∃ J' w' n, Jgr h.nx J J' ∧ HR w0 J' h w' ∧ OutR E w0 J' x n ∧ (execOp ρc ⟨dst, op, type, pos, after, guard⟩).run E.P w = .ok n w' := by
    intro x hs hp
    obtain ⟨v, rfl, hrun⟩ := pureOp_sound (P := E.P) (w := w) hρ hs hp
    exact ⟨J, w, _, Jgr.refl _ J, hr, ⟨v, VR.vv v, rfl⟩, hrun⟩
  unfold aopA at ha
  cases op with
  | move x =>
    simp at ha; obtain ⟨rfl, rfl⟩ := ha
    exact ⟨J, w, _, Jgr.refl _ J, hr, ⟨_, hρ x (by simp [Op.operands]), rfl⟩, by simp [execOp]⟩
  | assign x =>
    simp at ha; obtain ⟨rfl, rfl⟩ := ha
    exact ⟨J, w, _, Jgr.refl _ J, hr, ⟨_, hρ x (by simp [Op.operands]), rfl⟩, by simp [execOp]⟩
  | pick c a b =>
    have hc := hρ c (by simp [Op.operands])
    simp only at ha
    split at ha
    · rename_i hb
      simp at ha; obtain ⟨rfl, rfl⟩ := ha
      unfold asBool? at hb
      split at hb
      · rename_i b0 e
        rw [e] at hc; simp [VR] at hc
        simp at hb; subst hb
        exact ⟨J, w, _, Jgr.refl _ J, hr, ⟨_, hρ a (by simp [Op.operands]), rfl⟩, by simp [execOp, hc, asBool]⟩
      · simp at hb
    · rename_i hb
      simp at ha; obtain ⟨rfl, rfl⟩ := ha
      unfold asBool? at hb
      split at hb
      · rename_i b0 e
        rw [e] at hc; simp [VR] at hc
        simp at hb; subst hb
        exact ⟨J, w, _, Jgr.refl _ J, hr, ⟨_, hρ b (by simp [Op.operands]), rfl⟩, by simp [execOp, hc, asBool]⟩
      · simp at hb
    · simp at ha
  | alloc e =>
    simp only at ha
    split at ha
    · rename_i z hz
      split at ha
      · rename_i b h2 hn
        simp at ha; obtain ⟨rfl, rfl⟩ := ha
        obtain ⟨J', w', c, h1, h2, h3, h4⟩ := alloc_sound hr hz hn
        exact ⟨J', w', _, h1, h2, ⟨c, h3, rfl⟩, by simp [execOp, h4]⟩
      · simp at ha
    · simp at ha
  | box e x =>
    simp only at ha
    split at ha
    · rename_i b h2 hn
      simp at ha; obtain ⟨rfl, rfl⟩ := ha
      obtain ⟨J', w', c, h1, h2, h3, h4⟩ := box_sound (P := E.P) hr (hρ x (by simp [Op.operands])) hn
      exact ⟨J', w', _, h1, h2, ⟨c, h3, rfl⟩, by simp [execOp, h4]⟩
    · simp at ha
  | build t ps =>
    simp only at ha
    split at ha
    · rename_i v hb
      simp at ha; obtain ⟨rfl, rfl⟩ := ha
      have hp : PR J (pairs ρ ps.toList) (ps.toList.map fun p => (p.1, ρc p.2)) := pairs_rel fun p hp => hρ p.2 (by simp [Op.operands]; exact ⟨p.1, by simpa using hp⟩)
      obtain ⟨c, hv, hrun⟩ := build_sound (P := E.P) (w := w) hp hb
      have e : (ps.toList.map fun p => (p.1, ρc p.2)).toArray = ps.map fun (i, x) => (i, ρc x) := by apply Array.ext'; simp
      rw [e] at hrun
      exact same hv hrun
    · simp at ha
  | buildSlice t n ps =>
    simp only at ha
    split at ha
    · rename_i v h2 hb
      simp at ha; obtain ⟨rfl, rfl⟩ := ha
      have hp : PR J (pairs ρ ps.toList) (ps.toList.map fun p => (p.1, ρc p.2)) := pairs_rel fun p hp => hρ p.2 (by simp [Op.operands]; exact ⟨p.1, by simpa using hp⟩)
      obtain ⟨J', w', c, h1, h2, h3, hrun⟩ := buildSlice_sound (P := E.P) hr hp hb
      have e : (ps.toList.map fun p => (p.1, ρc p.2)).toArray = ps.map fun (i, x) => (i, ρc x) := by apply Array.ext'; simp
      rw [e] at hrun
      exact ⟨J', w', _, h1, h2, ⟨c, h3, rfl⟩, by simp [execOp, hrun]⟩
    · simp at ha
  | load t a =>
    simp only at ha
    split at ha
    · rename_i v hl
      simp at ha; obtain ⟨rfl, rfl⟩ := ha
      obtain ⟨c, hv, hrun⟩ := load_sound (P := E.P) hr (hρ a (by simp [Op.operands])) hl
      exact same hv hrun
    · simp at ha
  | store t a x =>
    simp only at ha
    split at ha
    · rename_i h2 hl
      simp at ha; obtain ⟨rfl, rfl⟩ := ha
      obtain ⟨w', hrun, h2⟩ := store_sound (P := E.P) hr (hρ a (by simp [Op.operands])) (hρ x (by simp [Op.operands])) hl
      exact ⟨J, w', _, Jgr.refl _ J, h2, rfl, by simp [execOp, hrun]⟩
    · simp at ha
  | nilCheck x =>
    have hx := hρ x (by simp [Op.operands])
    simp only at ha
    split at ha
    · rename_i b off e
      simp at ha; obtain ⟨rfl, rfl⟩ := ha
      rw [e] at hx
      have hx' := hx
      obtain ⟨B, K, hJ, hc⟩ := hx
      exact ⟨J, w, _, Jgr.refl _ J, hr, ⟨_, hx', rfl⟩, by simp [execOp, hc]⟩
    · rename_i f a b e
      simp at ha; obtain ⟨rfl, rfl⟩ := ha
      rw [e] at hx
      have hx' := hx
      obtain ⟨f', c', _, _, hc⟩ := hx
      exact ⟨J, w, _, Jgr.refl _ J, hr, ⟨_, hx', rfl⟩, by simp [execOp, hc]⟩
    · rename_i f a b e
      simp at ha; obtain ⟨rfl, rfl⟩ := ha
      rw [e] at hx
      have hx' := hx
      simp [VR] at hx
      exact ⟨J, w, _, Jgr.refl _ J, hr, ⟨_, hx', rfl⟩, by simp [execOp, hx]⟩
    · simp at ha
  | binOp bop t x y yt =>
    simp only at ha
    split at ha
    · rename_i r' hp
      simp at ha; obtain ⟨rfl, rfl⟩ := ha
      exact pureCase (by simp) hp
    · have hx := hρ x (by simp [Op.operands])
      have hy := hρ y (by simp [Op.operands])
      split at ha
      · split at ha
        · rename_i b hb
          simp at ha; obtain ⟨rfl, rfl⟩ := ha
          obtain ⟨h1, h2, h3, h4, h5, h6⟩ := aeq_run (P := E.P) (w := w) hx hy hb x y .eql
          refine ⟨J, w, _, Jgr.refl _ J, hr, ⟨.bool b, VR.vv _, rfl⟩, ?_⟩
          have hop : binOp .eql t (ρc x) (ρc y) = (do pure (.bool (← Op.equal t (ρc x) (ρc y)))) := by
            unfold binOp
            cases hcx : ρc x <;> first | rfl | exact (h3 _ _ hcx).elim | exact (h4 _ _ hcx).elim | exact (h5 _ _ _ hcx).elim | exact (h6 _ hcx).elim
          simp [execOp, h2, hop, h1]
        · simp at ha
      · split at ha
        · rename_i b hb
          simp at ha; obtain ⟨rfl, rfl⟩ := ha
          obtain ⟨h1, h2, h3, h4, h5, h6⟩ := aeq_run (P := E.P) (w := w) hx hy hb x y .neq
          refine ⟨J, w, _, Jgr.refl _ J, hr, ⟨.bool (!b), VR.vv _, rfl⟩, ?_⟩
          have hop : binOp .neq t (ρc x) (ρc y) = (do pure (.bool (!(← Op.equal t (ρc x) (ρc y))))) := by
            unfold binOp
            cases hcx : ρc x <;> first | rfl | exact (h3 _ _ hcx).elim | exact (h4 _ _ hcx).elim | exact (h5 _ _ _ hcx).elim | exact (h6 _ hcx).elim
          simp [execOp, h2, hop, h1]
        · simp at ha
      · rename_i hne1 hne2
        split at ha
        · rename_i b hb
          simp at ha; obtain ⟨rfl, rfl⟩ := ha
          refine ⟨J, w, _, Jgr.refl _ J, hr, ⟨.bool b, VR.vv _, rfl⟩, ?_⟩
          obtain ⟨h1, h2⟩ := cmpO_run (w := w) hg hx hy hb t
          rcases h1 with rfl | rfl | rfl | rfl <;> simp [execOp, eqGuard, h2]
        · simp at ha
  | unOp u t x =>
    simp only at ha
    split at ha
    · rename_i r' hp
      simp at ha; obtain ⟨rfl, rfl⟩ := ha
      exact pureCase (by simp) hp
    · simp at ha
  | convert s d x =>
    simp only at ha
    split at ha
    · rename_i r' hp
      simp at ha; obtain ⟨rfl, rfl⟩ := ha
      exact pureCase (by simp) hp
    · split at ha
      · rename_i v hb
        simp at ha; obtain ⟨rfl, rfl⟩ := ha
        obtain ⟨c, hv, hrun⟩ := bytesString_run (P := E.P) hr (hρ x (by simp [Op.operands])) hb
        exact same hv hrun
      · simp at ha
  | makeFunc fn first captured =>
    simp only at ha
    have h1 : VRs J (mapAV ρ first.toList) (first.toList.map ρc) := mapAV_rel fun x hx => hρ x (by simp [Op.operands]; exact .inl (by simpa using hx))
    have h2 : VRs J (mapAV ρ captured.toList) (captured.toList.map ρc) := mapAV_rel fun x hx => hρ x (by simp [Op.operands]; exact .inr (by simpa using hx))
    have key : ∃ J' w' n, Jgr h.nx J J' ∧ HR w0 J' h w' ∧ OutR E w0 J' (.value (.func fn (mapAV ρ first.toList) (mapAV ρ captured.toList))) n ∧ (execOp ρc ⟨dst, .makeFunc fn first captured, type, pos, after, guard⟩).run E.P w = .ok n w' := by
      refine ⟨J, w, _, Jgr.refl _ J, hr, ⟨_, ⟨_, _, h1, h2, rfl⟩, rfl⟩, ?_⟩
      simp [execOp, Instr.makeFunc]
      constructor <;> (apply Array.ext'; simp)
    cases fn <;> simp at ha <;> (obtain ⟨rfl, rfl⟩ := ha; exact key)
  | makeMap t rv =>
    simp only at ha
    cases rv with
    | none =>
      simp only at ha
      split at ha
      · rename_i b h2 hn
        simp at ha; obtain ⟨rfl, rfl⟩ := ha
        obtain ⟨J', w', c, h1, h2, h3, h4⟩ := makeMap_sound (P := E.P) hr hn
        simp at h4
        exact ⟨J', w', _, h1, h2, ⟨c, h3, rfl⟩, by simp [execOp, Instr.makeMap, h4]⟩
      · simp at ha
    | some x =>
      simp only at ha
      split at ha
      · rename_i kt et n hu hi
        split at ha
        · rename_i b h2 hn
          simp at ha; obtain ⟨rfl, rfl⟩ := ha
          obtain ⟨J', w', c, h1, h2, h3, h4⟩ := makeMap_sound (P := E.P) hr hn
          have hx := hρ x (by simp [Op.operands])
          unfold asInt? at hi
          split at hi
          · rename_i k m e
            rw [e] at hx; simp [VR] at hx
            simp at h4
            exact ⟨J', w', _, h1, h2, ⟨c, h3, rfl⟩, by simp [execOp, Instr.makeMap, run_und w hu, hx, asInt, asIntOf, h4]⟩
          · simp at hi
        · simp at ha
      · simp at ha
  | makeSlice t l c =>
    simp only at ha
    split at ha
    · rename_i v h2 hn
      simp at ha; obtain ⟨rfl, rfl⟩ := ha
      obtain ⟨J', w', c, h1, h2, h3, h4⟩ := makeSlice_sound (P := E.P) hr (hρ l (by simp [Op.operands])) (hρ c (by simp [Op.operands])) hn
      exact ⟨J', w', _, h1, h2, ⟨c, h3, rfl⟩, by simp [execOp, h4]⟩
    · simp at ha
  | slice t x lo hi mx =>
    simp only at ha
    split at ha
    · rename_i r' hp
      simp at ha; obtain ⟨rfl, rfl⟩ := ha
      exact pureCase (by simp) hp
    · split at ha
      · rename_i v hs
        simp at ha; obtain ⟨rfl, rfl⟩ := ha
        obtain ⟨c, hv, hrun⟩ := slice_run (P := E.P) hr (hρ x (by simp [Op.operands])) (opt_rel (ρc := ρc) fun y e => hρ y (by simp [Op.operands, e])) (opt_rel (ρc := ρc) fun y e => hρ y (by simp [Op.operands, e])) (opt_rel (ρc := ρc) fun y e => hρ y (by simp [Op.operands, e])) hs
        exact same hv hrun
      · simp at ha
  | fieldAddr t x f =>
    simp only at ha
    split at ha
    · rename_i v hs
      simp at ha; obtain ⟨rfl, rfl⟩ := ha
      obtain ⟨c, hv, hrun⟩ := fieldAddr_run (P := E.P) (w := w) (hρ x (by simp [Op.operands])) hs
      exact same hv hrun
    · simp at ha
  | field t x f =>
    simp only at ha
    split at ha
    · rename_i v hs
      simp at ha; obtain ⟨rfl, rfl⟩ := ha
      obtain ⟨c, hv, hrun⟩ := field_run (P := E.P) (w := w) (hρ x (by simp [Op.operands])) hs
      exact same hv hrun
    · simp at ha
  | indexAddr t x i =>
    simp only at ha
    split at ha
    · rename_i v hs
      simp at ha; obtain ⟨rfl, rfl⟩ := ha
      obtain ⟨c, hv, hrun⟩ := index_run (P := E.P) (w := w) (hρ x (by simp [Op.operands])) (hρ i (by simp [Op.operands])) hs
      exact same hv hrun
    · simp at ha
  | index t x i =>
    simp only at ha
    split at ha
    · rename_i r' hp
      simp at ha; obtain ⟨rfl, rfl⟩ := ha
      exact pureCase (by simp) hp
    · split at ha
      · rename_i v hs
        simp at ha; obtain ⟨rfl, rfl⟩ := ha
        obtain ⟨c, hv, hrun⟩ := indexV_run (P := E.P) (w := w) (hρ x (by simp [Op.operands])) (hρ i (by simp [Op.operands])) hs
        exact same hv hrun
      · simp at ha
  | lookup t m k ok =>
    simp only at ha
    split at ha
    · rename_i v hs
      simp at ha; obtain ⟨rfl, rfl⟩ := ha
      obtain ⟨c, hv, hrun⟩ := lookup_run (P := E.P) hr (hρ m (by simp [Op.operands])) (hρ k (by simp [Op.operands])) hs
      exact same hv hrun
    · simp at ha
  | mapUpdate t m k x =>
    simp only at ha
    split at ha
    · rename_i h2 hs
      simp at ha; obtain ⟨rfl, rfl⟩ := ha
      obtain ⟨w', h2, hrun⟩ := mapUpdate_sound (P := E.P) hr (hρ m (by simp [Op.operands])) (hρ k (by simp [Op.operands])) (hρ x (by simp [Op.operands])) hs
      exact ⟨J, w', _, Jgr.refl _ J, h2, rfl, by simp [execOp, hrun]⟩
    · simp at ha
  | insert t m k x =>
    simp only at ha
    split at ha
    · rename_i h2 hs
      simp at ha; obtain ⟨rfl, rfl⟩ := ha
      obtain ⟨w', h2, hrun⟩ := mapUpdate_sound (P := E.P) hr (hρ m (by simp [Op.operands])) (hρ k (by simp [Op.operands])) (hρ x (by simp [Op.operands])) hs
      exact ⟨J, w', _, Jgr.refl _ J, h2, rfl, by simp [execOp, hrun]⟩
    · simp at ha
  | extract x i =>
    have hx := hρ x (by simp [Op.operands])
    simp only at ha
    split at ha
    · rename_i l e
      split at ha
      · rename_i v hv
        simp at ha; obtain ⟨rfl, rfl⟩ := ha
        rw [e] at hx
        obtain ⟨l', hl, hc⟩ := hx
        obtain ⟨y, hy, hvr⟩ := hl.get i hv
        exact ⟨J, w, _, Jgr.refl _ J, hr, ⟨y, hvr, rfl⟩, by simp [execOp, hc, Instr.extract, hy]⟩
      · simp at ha
    · rename_i l e
      split at ha
      · rename_i v hv
        simp at ha; obtain ⟨rfl, rfl⟩ := ha
        rw [e] at hx; simp [VR] at hx
        exact ⟨J, w, _, Jgr.refl _ J, hr, ⟨v, VR.vv _, rfl⟩, by simp [execOp, hx, Instr.extract, hv]⟩
      · simp at ha
    · simp at ha
  | call c =>
    simp only at ha
    obtain ⟨callee, args, argTypes⟩ := c
    have hargs : VRs J (mapAV ρ args.toList) (args.toList.map ρc) := mapAV_rel fun x hx => hρ x (by simp [Op.operands, Call.operands]; exact .inr (by simpa using hx))
    have hmap : (args.toList.map ρc).toArray = args.map ρc := by apply Array.ext'; simp
    cases callee with
    | builtin b =>
      have bCase : ∀ {x : AOut} {h2 : Hp}, builtinA? E.P h b argTypes (mapAV ρ args.toList) = some (x, h2) →
          ∃ J' w' n, Jgr h.nx J J' ∧ HR w0 J' h2 w' ∧ OutR E w0 J' x n ∧ (execOp ρc ⟨dst, .call ⟨.builtin b, args, argTypes⟩, type, pos, after, guard⟩).run E.P w = .ok n w' := by
        intro x h2 hb
        obtain ⟨cst, he⟩ : ∃ cst, execOp ρc ⟨dst, .call ⟨.builtin b, args, argTypes⟩, type, pos, after, guard⟩ = builtin b argTypes type cst (args.map ρc) := ⟨_, rfl⟩
        obtain ⟨J', w', n, h1, h2, h3, h4⟩ := builtinA_sound hr type cst hargs hb
        rw [hmap] at h4
        exact ⟨J', w', n, h1, h2, h3, by rw [he]; exact h4⟩
      simp only at ha
      split at ha
      · split at ha
        · rename_i r' hp
          simp at ha; obtain ⟨rfl, rfl⟩ := ha
          exact pureCase (by simp) hp
        · simp at ha
      · split at ha
        · rename_i r' hp
          simp at ha; obtain ⟨rfl, rfl⟩ := ha
          exact pureCase (by simp) hp
        · simp at ha
      · split at ha
        · rename_i r' hp
          simp at ha; obtain ⟨rfl, rfl⟩ := ha
          exact pureCase (by simp) hp
        · exact bCase ha
      · exact bCase ha
    | value f =>
      simp only at ha
      split at ha
      · rename_i t ht
        split at ha
        · rename_i r' hi
          simp at ha; obtain ⟨rfl, rfl⟩ := ha
          obtain ⟨d, hd, hrun⟩ := target_sound (E := E) (w := w) (hρ f (by simp [Op.operands, Call.operands])) hargs ht
          obtain ⟨n, hn, hrun2⟩ := invoke_sound hE hm hr hd hi
          rw [hmap] at hrun
          exact ⟨J, w, n, Jgr.refl _ J, hr, hn, by simp [execOp, resolve, hrun, hrun2]⟩
        · simp at ha
      · simp at ha
    | invoke recv name => simp at ha
  | _ => simp at ha

end
end Go.Ev
