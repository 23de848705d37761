/- What an operation has come to is acted upon in the model as in the evaluator. Condition: what the evaluator is told of functions without a walk is true. -/
import Derived.Test.YtoiclimflfdaeaaGreatDoorEvM7
set_option linter.unusedSimpArgs false
set_option linter.unusedVariables false
set_option linter.constructorNameAsVariable false
namespace Go.Ev
open Go.RowKit (Below)

section
variable {E : Env} {w0 : World} {cs0 : List Frame} {J : Jn} {h : Hp} {w : World} {lo : Nat} {T : Tr AV} {n : Nat}

theorem HR.calls {w' : World} (hr : HR w0 J h w) (hb : Below w.heap.size w w') : HR w0 J h w' :=
  ⟨hr.nx, hr.ent, hr.fr, hr.real, fun b f o B K e ej => (hr.sat b f o B K e ej).at (hb.block B (hr.sat b f o B K e ej).lt), hr.inj, hr.mine,
    ⟨hb.os.trans hr.below.os, hb.tape.trans hr.below.tape, hb.output.trans hr.below.output, Nat.le_trans hr.below.size hb.size,
      fun k hk => (hb.block k (Nat.lt_of_lt_of_le hk hr.below.size)).trans (hr.below.block k hk)⟩⟩

/-- What an operation has come to is acted upon. -/
theorem apply_sound (hE : E.Ok w0) (hm : E.more = false) {fn : FuncId} {todo : List AItem} {defers : List ATgt} {kind : CallKind} {round : Option Nat} {cs : List AFr} {s : ASt} {b : Frame} {a : Act} {ops : Array Oper} {i : Nat} {rest : List Nat} {k : List Item} {fs : List Frame}
    {o : Oper} (ho : ops[i]? = some o) (hwt : Region.wanted o (yielded ops a.tmps) = true) {w' : World} {nx : Next} (hrun : (execOp a.eval o).run E.P w = .ok nx w') {r : AOut} (hout : OutR E w0 J r nx)
    (hh : HR w0 J h w') (hg : GlobOk E J) (hfr : FrameIs fn defers kind round b a) (hlo : lo ≤ h.nx) (hw : WaitR E J h lo h.nx T n a todo (.inRegion ops (i :: rest) :: k)) (hcs : CsR E J h cs0 lo cs fs)
    (ha : applyA E fn T n todo defers kind round cs h r = some s) : ∃ m', Steps E.P (lone (b.at a (.inRegion ops (i :: rest) :: k)) fs w) m' ∧ SR E w0 cs0 s m' := by
  have hop := stepG_op (P := E.P) (b := b) (k := k) (cs := fs) (w := w) (rest := rest) ho hwt
  cases r with
  | value v =>
    obtain ⟨c, hv, rfl⟩ := hout
    refine ⟨_, .one (step_lone_go (fr' := (b.at a (.inRegion ops (i :: rest) :: k)).finish c) (cs' := fs) (w' := w') ?_), goOn_sound hm hh hg hfr hlo (Nat.le_refl _) hw hcs hv ha⟩
    rw [hop]; simp [stepG.apply, hrun]
  | skip =>
    have hout' : nx = .skip := hout
    subst hout'
    refine ⟨_, .one (step_lone_go (fr' := (b.at a (.inRegion ops (i :: rest) :: k)).finish undef) (cs' := fs) (w' := w') ?_), goOn_sound hm hh hg hfr hlo (Nat.le_refl _) hw hcs (VR.vv undef) ha⟩
    rw [hop]; simp [stepG.apply, hrun]
  | enter f args =>
    obtain ⟨cargs, hv, rfl⟩ := hout
    simp only [applyA] at ha
    obtain ⟨c, a', T', g, hgf, rfl, ht, hd, hent⟩ := enter_sound (kind := .normal) hE hv ha
    refine ⟨_, .one (step_lone_go (fr' := Frame.enter E.P f cargs.toArray .normal) (cs' := b.at a (.inRegion ops (i :: rest) :: k) :: fs) (w' := w') ?_), ?_⟩
    · rw [hop]; simp [stepG.apply, hrun, Frame.at]
    · refine ⟨J, w', _, _, h.nx, rfl, hh, hg, Nat.le_refl _, rfl, rfl, rfl, ?_, ⟨b, a, _, fs, lo, rfl, hfr, rfl, hlo, hw, hcs⟩⟩
      rw [hent]
      exact .run rfl rfl hd (.plain ht ⟨[], rfl, rfl⟩)
  | spec f args v =>
    obtain ⟨cargs, hv, rfl, hcalls⟩ := hout
    simp only [applyA] at ha
    obtain ⟨e, w2, fr, ⟨rfl, hb⟩, hcomes, hfn, hleave⟩ := hcalls w' hh.below (b.at a (.inRegion ops (i :: rest) :: k) :: fs)
    have hh2 := hh.calls hb
    refine ⟨_, .head (step_lone_go (fr' := Frame.enter E.P f cargs.toArray .normal) (cs' := b.at a (.inRegion ops (i :: rest) :: k) :: fs) (w' := w') ?_) (Steps.trans hcomes (.one (step_leave_returned hleave))), goOn_sound hm hh2 hg hfr hlo (Nat.le_refl _) hw hcs (VR.vv v) ha⟩
    rw [hop]; simp [stepG.apply, hrun, Frame.at]
  | defer d => simp [applyA, hm] at ha
  | recover => simp [applyA, hm] at ha
  | round l f T' n' as bd => simp [applyA, hm] at ha

theorem pick_first {p : Oper → Bool} {listed : Nat} : ∀ {l : List Oper} {k i : Nat} {o : Oper}, pickOp p listed k l = some (i, o) → ∀ j o', k ≤ j → j < i → l[j - k]? = some o' → listed.testBit j = false → ready o' listed = true → p o' = false
  | [], _, _, _, h, _, _, _, _, _, _, _ => by simp [pickOp] at h
  | x :: l, k, i, o, h, j, o', hk, hj, ho, hb, hr => by
    simp only [pickOp] at h
    rw [cond_eq_ite] at h
    split at h
    · simp at h
      omega
    · rename_i hc
      by_cases e : j = k
      · subst e
        simp at ho; subst ho
        cases hp : p x
        · rfl
        · exact (hc (by simp [hb, hp, hr])).elim
      · rw [show j - k = (j - (k + 1)) + 1 by omega] at ho
        exact pick_first h j o' (by omega) hj (by simpa using ho) hb hr

/-- The one operation that is left. -/
theorem pick_unique {listed : Nat} {l : List Oper} {i : Nat} {o : Oper} (h : pickOp (fun _ => true) listed 0 l = some (i, o)) (h2 : isNone (pickOp (fun _ => true) listed (i + 1) (l.drop (i + 1))) = true) :
    ∀ j o', l[j]? = some o' → listed.testBit j = false → ready o' listed = true → j = i := by
  intro j o' ho hb hr
  rcases Nat.lt_trichotomy j i with e | e | e
  · have := pick_first h j o' (by omega) e (by simpa using ho) hb hr
    simp at this
  · exact e
  · have h3 : pickOp (fun _ => true) listed (i + 1) (l.drop (i + 1)) = none := by
      cases hh : pickOp (fun _ => true) listed (i + 1) (l.drop (i + 1)) with
      | none => rfl
      | some x => rw [hh] at h2; simp [isNone] at h2
    have := pick_none h3 j o' (by omega) (by rw [List.getElem?_drop, show i + 1 + (j - (i + 1)) = j by omega]; exact ho) hb hr
    simp at this

end
end Go.Ev
