/- A region that draws its order: each step of the evaluator is some steps of the model. Condition: as above. -/
import Derived.Test.YtoiclimflfdaeaaGreatDoorEvM8
set_option linter.unusedSimpArgs false
set_option linter.unusedVariables false
set_option linter.constructorNameAsVariable false
namespace Go.Ev
open Go.RowKit (Below)

section
variable {E : Env} {w0 : World} {cs0 : List Frame} {J : Jn} {h : Hp} {w : World} {lo : Nat} {T : Tr AV} {n : Nat}

theorem Evolve.of_op {J J' : Jn} {h h' : Hp} {hi : Nat} (hj : Jgr h.nx J J') (hk : Keeps h h') (hi1 : hi ≤ h.nx) : Evolve J J' h h' hi :=
  ⟨hj.1, fun x hx e => by rw [hj.2 x (by omega)]; exact e, hk.1, fun x _ oi e => hk.2 x oi e⟩

/-- The operation at the head of a frame's region is executed. -/
theorem exec_sound (hE : E.Ok w0) (hm : E.more = false) {fn : FuncId} {todo : List AItem} {defers : List ATgt} {kind : CallKind} {round : Option Nat} {cs : List AFr} {s : ASt} {b : Frame} {a : Act} {ops : Array Oper} {i : Nat} {rest : List Nat} {k : List Item} {fs : List Frame}
    {o : Oper} (ho : ops[i]? = some o) (hseen : Seen J T a.tmps ops o) (hh : HR w0 J h w) (hg : GlobOk E J) (hfr : FrameIs fn defers kind round b a) (hlo : lo ≤ h.nx)
    (hw : WaitR E J h lo h.nx T n a todo (.inRegion ops (i :: rest) :: k)) (hcs : CsR E J h cs0 lo cs fs)
    (hs : (bif wantedA o ops T then match aopRound E round h (evalA E T) o with
          | some (r, h) => applyA E fn T n todo defers kind round cs h r
          | none => none
        else goOn E fn T n todo defers kind round cs h U) = some s) : ∃ m', Steps E.P (lone (b.at a (.inRegion ops (i :: rest) :: k)) fs w) m' ∧ SR E w0 cs0 s m' := by
  have hwant := wanted_sound hseen
  have hops := eval_sound hg hseen
  rw [cond_eq_ite] at hs
  split at hs
  · rename_i hwa
    split at hs
    · rename_i r h' hr
      rw [hfr.round] at hr
      simp only [aopRound] at hr
      rw [aop_eq hm] at hr
      obtain ⟨J', w', nx, j1, j2, j3, j4⟩ := aopA_sound hE hm hg hh hops hr
      have hk := aopA_keeps hh.small hr
      have ev := Evolve.of_op (hi := h.nx) j1 hk (Nat.le_refl _)
      have hw2 : WaitR E J' h' lo h'.nx T n a todo (.inRegion ops (i :: rest) :: k) := by
        have := hw.evolve ev
        cases this with
        | plain ht hd hk => exact .plain ht hd hk
        | dreg hr hb ho hbit hap hk' => exact .dreg hr (fun m hm b hmb => Nat.lt_of_lt_of_le (hb m hm b hmb) hk.1) ho hbit hap hk'
      exact apply_sound hE hm ho (by rw [hwant]; exact hwa) j4 j3 j2 (hg.mono j1.1) hfr (Nat.le_trans hlo hk.1) hw2 (hcs.evolve (ev.le hlo)) hs
    · simp at hs
  · rename_i hwa
    refine ⟨_, .one ?_, goOn_sound (c := undef) hm hh hg hfr hlo (Nat.le_refl _) hw hcs (VR.vv _) hs⟩
    rw [Frame.finish_at]
    exact step_op_skip (by rw [ho]; simp; rw [hwant]; simpa using hwa)

/-- A region that draws its order. -/
theorem dreg_sound (hE : E.Ok w0) (hm : E.more = false) {fn : FuncId} {ops : Array Oper} {listed : Nat} {pend : List Pend} {l : List AItem} {defers : List ATgt} {kind : CallKind} {round : Option Nat} {cs : List AFr} {s : ASt} {b : Frame} {a : Act}
    {X : Array Bool} {rest : List Nat} {k : List Item} {fs : List Frame}
    (hh : HR w0 J h w) (hg : GlobOk E J) (hfr : FrameIs fn defers kind round b a) (hlo : lo ≤ h.nx)
    (hr : DregR E J h lo ops listed pend T n a.tmps X rest) (hl : Looks E ops h T X pend) (hi : IR l k) (hcs : CsR E J h cs0 lo cs fs)
    (hs : dregA E fn T n ops listed pend l defers kind round cs h = some s) : ∃ m', Steps E.P (lone (b.at a (.inRegion ops rest :: k)) fs w) m' ∧ SR E w0 cs0 s m' := by
  unfold dregA at hs
  split at hs
  · -- a quiet operation
    rename_i i o hp
    have key : ∀ {T' : Tr AV}, ((wantedA o ops T = true ∧ ∃ v h1, aop E h (evalA E T) o = some (.value v, h1) ∧ putT T n o.dst v = some T') ∨ (wantedA o ops T = false ∧ putT T n o.dst U = some T')) →
        s = ⟨⟨fn, T', n, .dreg ops (Nat.lor listed (2 ^ i)) (⟨i, o, none⟩ :: pend) none :: l, defers, .run, kind, round⟩, cs, h⟩ → ∃ m', Steps E.P (lone (b.at a (.inRegion ops rest :: k)) fs w) m' ∧ SR E w0 cs0 s m' := by
      intro T' hc e
      subst e
      obtain ⟨r1, r2⟩ := hr.quietPick hm hl hp hc
      exact ⟨_, .refl _ _, J, w, _, fs, lo, rfl, hh, hg, hlo, hfr.defers, hfr.kind, hfr.round, .run hfr.fn hfr.bk hfr.ad (.dreg r1 r2 hi), hcs⟩
    rw [cond_eq_ite] at hs
    split at hs
    · rename_i hw
      split at hs
      · rename_i v h1 ha
        split at hs
        · rename_i T' hput
          simp at hs
          exact key (.inl ⟨hw, v, h1, ha, hput⟩) hs.symm
        · simp at hs
      · simp at hs
    · rename_i hw
      split at hs
      · rename_i T' hput
        simp at hs
        exact key (.inr ⟨by simpa using hw, hput⟩) hs.symm
      · simp at hs
  · split at hs
    · -- a new block
      rename_i i o hp
      split at hs
      · rename_i v h' ha
        split at hs
        · rename_i T' hput
          simp at hs; subst hs
          obtain ⟨q1, q2, q3, q4, q5⟩ := hr.freshPick hm hh hlo hl hp ha hput
          exact ⟨_, .refl _ _, J, w, _, fs, lo, rfl, q1, hg, Nat.le_trans hlo q3, hfr.defers, hfr.kind, hfr.round, .run hfr.fn hfr.bk hfr.ad (.dreg q4 q5 hi),
            hcs.evolve ⟨Jext.refl J, fun _ _ e => e, q3, fun x _ oi e => q2 x oi e⟩⟩
        · simp at hs
      · simp at hs
    · obtain ⟨J1, w1, a1, X1, rest1, s1, d1, j1, l1, h1, r1, lk1, e1⟩ := DregR.reach hE hm b k fs rest J w a X hg hh hr hl
      have hg1 := hg.mono j1
      have hev : Evolve J J1 h h lo := ⟨j1, fun x hx e => by rw [l1 x hx]; exact e, Nat.le_refl _, fun _ _ _ e => e⟩
      have hcs1 := hcs.evolve hev
      have hfr1 : FrameIs fn defers kind round b a1 := ⟨hfr.fn, hfr.bk, d1.trans hfr.ad, hfr.defers, hfr.kind, hfr.round⟩
      split at hs
      · -- the one that is left
        rename_i i o hp
        rw [cond_eq_ite] at hs
        split at hs
        · rename_i hu
          obtain ⟨_, p2, p3, _, p5⟩ := pick_some hp
          have hop : ops[i]? = some o := by simpa using p2
          have huniq := pick_unique hp hu
          rcases e1 with rfl | ⟨i', r', rfl, hb'⟩
          · exact (r1.has_more hop p3 p5).elim
          · have hii : i' = i := by
              obtain ⟨_, ⟨o', ho', hall⟩, _⟩ := sched_head r1.sched
              refine huniq i' o' (by simpa using ho') hb' (ready_iff.2 fun e he hbd => ?_)
              have hx := hall e he hbd
              cases hbit : listed.testBit e.on with
              | true => rfl
              | false =>
                have := r1.un e.on hbit (by rw [← r1.sz]; exact (Array.getElem?_eq_some_iff.1 hx).1)
                rw [hx] at this; simp at this
            subst hii
            obtain ⟨_, ⟨o', ho', hall⟩, _⟩ := sched_head r1.sched
            rw [hop] at ho'; simp at ho'; subst ho'
            have hdone : ∀ m ∈ pend, behind o m.i = true → X1[m.i]? = some true := by
              intro m _ hbm
              obtain ⟨e, he, hbd, hon⟩ := behind_iff.1 hbm
              rw [← hon]; exact hall e he hbd
            obtain ⟨h2, es, hnx2, hset⟩ := settle_eq o pend h
            rw [es] at hs
            simp only at hs
            have hnamed : ∀ m ∈ pend, behind o m.i = true → ∀ b, m.b = some b → ∃ x, J1 b = some x := fun m hmm hbm b hmb => (r1.name m hmm b hmb).2.2.1 (hdone m hmm hbm)
            obtain ⟨hh2, hfind2⟩ := hset w0 J1 w1 h1 hnamed
            rw [cond_eq_ite] at hs
            split at hs
            · rename_i hap
              have hap' : ∀ m ∈ pend.filter (fun m => !behind o m.i), apartA ops m o = true := by
                intro m hmm
                rw [List.all_eq_true] at hap
                exact hap m hmm
              have hbelow : ∀ x, x < lo → ∀ m ∈ pend, m.b ≠ some x := by
                intro x hx m hmm e
                have := (r1.name m hmm x e).1
                omega
              have hev2 : Evolve J1 J1 h h2 lo := ⟨Jext.refl _, fun _ _ e => e, by omega, fun x hx oi e => hfind2 x true oi e fun m hmm _ => hbelow x hx m hmm⟩
              have r2 : DregR E J1 h2 lo ops listed (pend.filter fun m => !behind o m.i) T n a1.tmps X1 (i' :: r') := by
                refine r1.evolve rfl (fun m hmm e => hdone m hmm (by simpa using e)) (Jext.refl _) (by omega) (fun _ _ _ _ e => e) ?_
                intro m hmm b hmb oi e
                obtain ⟨hm1, hm2⟩ := List.mem_filter.1 hmm
                refine hfind2 b true oi e fun m' hm' hbm' hmb' => ?_
                have := r1.pok.names m hm1 m' hm' b hmb hmb'
                subst this
                rw [hbm'] at hm2; simp at hm2
              have hseen : Seen J1 T a1.tmps ops o := by
                refine r2.seen rfl hop fun m hmm _ d hd hsd => ?_
                exact (apart_sees (hap' m hmm)).2 d hd hsd
              have hwait : WaitR E J1 h2 lo h2.nx T n a1 (.dreg ops listed (pend.filter fun m => !behind o m.i) (some (i', o)) :: l) (.inRegion ops (i' :: r') :: k) :=
                .dreg r2 (fun m hmm b hmb => (r2.name m hmm b hmb).2.1) hop p3 hap' hi
              obtain ⟨m', q1, q2⟩ := exec_sound hE hm hop hseen hh2 hg1 hfr1 (by omega) hwait (hcs1.evolve hev2) hs
              exact ⟨m', s1.trans q1, q2⟩
            · simp at hs
        · simp at hs
      · -- the end
        rename_i hp
        simp at hs; subst hs
        rcases e1 with rfl | ⟨i', r', rfl, hb'⟩
        · have hdone := r1.all_done
          obtain ⟨hnx2, hset⟩ := settleAll_eq pend h
          obtain ⟨hh2, hfind2⟩ := hset w0 J1 w1 h1 fun m hmm b hmb => (r1.name m hmm b hmb).2.2.1 (hdone m hmm)
          refine ⟨_, s1.trans (.one step_region_end), J1, w1, _, fs, lo, rfl, hh2, hg1, by omega, hfr1.defers, hfr1.kind, hfr1.round, .run hfr1.fn hfr1.bk hfr1.ad (.plain ?_ hi), ?_⟩
          · obtain ⟨t1, t2, t3⟩ := r1.tr
            refine ⟨t1, t2, fun t _ => t3 t ?_⟩
            rintro ⟨m, hmm, e, _⟩
            rw [hdone m hmm] at e; simp at e
          · refine hcs1.evolve ⟨Jext.refl _, fun _ _ e => e, by omega, fun x hx oi e => hfind2 x true oi e fun m hmm e' => ?_⟩
            have := (r1.name m hmm x e').1
            omega
        · exfalso
          obtain ⟨_, ⟨o', ho', hall⟩, _⟩ := sched_head r1.sched
          have := pick_none hp i' o' (by omega) (by simpa using ho') hb' (ready_iff.2 fun e he hbd => by
            have hx := hall e he hbd
            cases hbit : listed.testBit e.on with
            | true => rfl
            | false =>
              have := r1.un e.on hbit (by rw [← r1.sz]; exact (Array.getElem?_eq_some_iff.1 hx).1)
              rw [hx] at this; simp at this)
          simp at this

end
end Go.Ev
