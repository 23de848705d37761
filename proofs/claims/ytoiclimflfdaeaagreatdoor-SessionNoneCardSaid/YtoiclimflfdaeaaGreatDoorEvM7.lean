/- Frames of the evaluator and of the model; a frame that waited goes on. No conditions. -/
import Derived.Test.YtoiclimflfdaeaaGreatDoorEvM6
set_option linter.unusedSimpArgs false
set_option linter.unusedVariables false
set_option linter.constructorNameAsVariable false
namespace Go.Ev
open Go.RowKit (Below)

/-- What is still to do. -/
def IR : List AItem → List Item → Prop
  | [], k => k = []
  | .code c :: l, k => ∃ r, k = .code c :: r ∧ IR l r
  | .inBlock id :: l, k => ∃ r, k = .inBlock id :: r ∧ IR l r
  | .inLoop c :: l, k => ∃ r, k = .inLoop c :: r ∧ IR l r
  | .inScope c :: l, k => ∃ r, k = .inScope c :: r ∧ IR l r
  | .reg ops i t :: l, k => ∃ r, k = .inRegion ops (List.range' i t.length) :: r ∧ ops.toList.drop i = t ∧ IR l r
  | _ :: _, _ => False

theorem exit_sound {id : Nat} : ∀ {l l' : List AItem} {k : List Item}, IR l k → exitToA id l = some l' → ∃ k', exitTo id k = some k' ∧ IR l' k'
  | [], _, _, _, h => by simp [exitToA] at h
  | .code c :: l, _, _, ⟨r, rfl, hr⟩, h => by simp only [exitToA] at h; simpa only [exitTo] using exit_sound hr h
  | .inLoop c :: l, _, _, ⟨r, rfl, hr⟩, h => by simp only [exitToA] at h; simpa only [exitTo] using exit_sound hr h
  | .inScope c :: l, _, _, ⟨r, rfl, hr⟩, h => by simp only [exitToA] at h; simpa only [exitTo] using exit_sound hr h
  | .reg _ _ _ :: l, _, _, ⟨r, rfl, _, hr⟩, h => by simp only [exitToA] at h; simpa only [exitTo] using exit_sound hr h
  | .inBlock i :: l, _, _, ⟨r, rfl, hr⟩, h => by
    simp only [exitToA] at h
    rw [cond_eq_ite] at h
    by_cases e : i = id
    · subst e
      simp at h; subst h
      exact ⟨r, by simp [exitTo], hr⟩
    · have : (i.beq id) = false := beq_f e
      rw [this] at h
      simp at h
      obtain ⟨k', h1, h2⟩ := exit_sound hr h
      exact ⟨k', by simp [exitTo, e, h1], h2⟩
  | .dreg .. :: _, _, _, hr, _ => by simp [IR] at hr
  | .inRangeFunc _ :: _, _, _, hr, _ => by simp [IR] at hr
  | .endRangeFunc _ :: _, _, _, hr, _ => by simp [IR] at hr
  | .beginRound :: _, _, _, hr, _ => by simp [IR] at hr

theorem goto_sound {id : Nat} : ∀ {l l' : List AItem} {k : List Item}, IR l k → gotoInA id l = some l' → ∃ k', gotoIn id k = some k' ∧ IR l' k'
  | [], _, _, _, h => by simp [gotoInA] at h
  | .code c :: l, _, _, ⟨r, rfl, hr⟩, h => by simp only [gotoInA] at h; simpa only [gotoIn] using goto_sound hr h
  | .inLoop c :: l, _, _, ⟨r, rfl, hr⟩, h => by simp only [gotoInA] at h; simpa only [gotoIn] using goto_sound hr h
  | .inBlock c :: l, _, _, ⟨r, rfl, hr⟩, h => by simp only [gotoInA] at h; simpa only [gotoIn] using goto_sound hr h
  | .reg _ _ _ :: l, _, _, ⟨r, rfl, _, hr⟩, h => by simp only [gotoInA] at h; simpa only [gotoIn] using goto_sound hr h
  | .inScope c :: l, _, _, ⟨r, rfl, hr⟩, h => by
    simp only [gotoInA] at h
    split at h
    · rename_i rest hf
      simp at h; subst h
      exact ⟨_, by simp [gotoIn, hf], ⟨_, rfl, ⟨_, rfl, hr⟩⟩⟩
    · rename_i hf
      obtain ⟨k', h1, h2⟩ := goto_sound hr h
      exact ⟨k', by simp [gotoIn, hf, h1], h2⟩
  | .dreg .. :: _, _, _, hr, _ => by simp [IR] at hr
  | .inRangeFunc _ :: _, _, _, hr, _ => by simp [IR] at hr
  | .endRangeFunc _ :: _, _, _, hr, _ => by simp [IR] at hr
  | .beginRound :: _, _, _, hr, _ => by simp [IR] at hr

/-- What the frame that runs has to do. -/
inductive TodoR (E : Env) (J : Jn) (h : Hp) (lo : Nat) (T : Tr AV) (n : Nat) (a : Act) : List AItem → List Item → Prop where
  | plain {l : List AItem} {k : List Item} (ht : TR J T n a.tmps) (hi : IR l k) : TodoR E J h lo T n a l k
  | dreg {ops : Array Oper} {listed : Nat} {pend : List Pend} {X : Array Bool} {rest : List Nat} {l : List AItem} {k : List Item} (hr : DregR E J h lo ops listed pend T n a.tmps X rest)
      (hl : Looks E ops h T X pend) (hi : IR l k) : TodoR E J h lo T n a (.dreg ops listed pend none :: l) (.inRegion ops rest :: k)

/-- What a frame that waits has to do. -/
inductive WaitR (E : Env) (J : Jn) (h : Hp) (lo hi : Nat) (T : Tr AV) (n : Nat) (a : Act) : List AItem → List Item → Prop where
  | plain {ops : Array Oper} {i : Nat} {o : Oper} {t : List Oper} {l : List AItem} {k : List Item} (ht : TR J T n a.tmps) (hd : ops.toList.drop i = o :: t) (hk : IR l k) :
      WaitR E J h lo hi T n a (.reg ops i (o :: t) :: l) (.inRegion ops (i :: List.range' (i + 1) t.length) :: k)
  | dreg {ops : Array Oper} {listed : Nat} {pend : List Pend} {X : Array Bool} {i : Nat} {o : Oper} {r' : List Nat} {l : List AItem} {k : List Item} (hr : DregR E J h lo ops listed pend T n a.tmps X (i :: r'))
      (hb : ∀ m ∈ pend, ∀ b, m.b = some b → b < hi) (ho : ops[i]? = some o) (hbit : listed.testBit i = false) (hap : ∀ m ∈ pend, apartA ops m o = true) (hk : IR l k) :
      WaitR E J h lo hi T n a (.dreg ops listed pend (some (i, o)) :: l) (.inRegion ops (i :: r') :: k)

/-- A frame in common. -/
structure FrameIs (fn : FuncId) (defers : List ATgt) (kind : CallKind) (round : Option Nat) (b : Frame) (a : Act) : Prop where
  fn : b.fn = fn
  bk : b.kind = .normal
  ad : a.defers = []
  defers : defers = []
  kind : kind = .normal
  round : round = none

/-- The callers. -/
def CsR (E : Env) (J : Jn) (h : Hp) (cs0 : List Frame) : Nat → List AFr → List Frame → Prop
  | _, [], fs => fs = cs0
  | hi, fr :: cs, fs => ∃ b a k fs' lo, fs = b.at a k :: fs' ∧ FrameIs fr.fn fr.defers fr.kind fr.round b a ∧ fr.mode = .run ∧ lo ≤ hi ∧ WaitR E J h lo hi fr.T fr.n a fr.todo k ∧ CsR E J h cs0 lo cs fs'

/-- How memory moves on, as those who wait see it. -/
structure Evolve (J J' : Jn) (h h' : Hp) (hi : Nat) : Prop where
  ext : Jext J J'
  old : ∀ x, x < hi → J x = none → J' x = none
  nx : h.nx ≤ h'.nx
  find : ∀ x, x < hi → ∀ oi, h.H.find x = some (true, oi) → h'.H.find x = some (true, oi)

theorem Evolve.refl (J : Jn) (h : Hp) (hi : Nat) : Evolve J J h h hi := ⟨Jext.refl J, fun _ _ e => e, Nat.le_refl _, fun _ _ _ e => e⟩
theorem Evolve.trans {J J1 J2 : Jn} {h h1 h2 : Hp} {hi : Nat} (e : Evolve J J1 h h1 hi) (e' : Evolve J1 J2 h1 h2 hi) : Evolve J J2 h h2 hi :=
  ⟨e.ext.trans e'.ext, fun x hx hn => e'.old x hx (e.old x hx hn), Nat.le_trans e.nx e'.nx, fun x hx oi hf => e'.find x hx oi (e.find x hx oi hf)⟩
theorem Evolve.le {J J' : Jn} {h h' : Hp} {hi lo : Nat} (e : Evolve J J' h h' hi) (hl : lo ≤ hi) : Evolve J J' h h' lo :=
  ⟨e.ext, fun x hx => e.old x (by omega), e.nx, fun x hx => e.find x (by omega)⟩

theorem TR.mono {J J' : Jn} (h : Jext J J') {T : Tr AV} {n : Nat} {tmps : Array Value} (ht : TR J T n tmps) : TR J' T n tmps := TRx.mono h ht

theorem WaitR.evolve {E : Env} {J J' : Jn} {h h' : Hp} {lo hi : Nat} {T : Tr AV} {n : Nat} {a : Act} {l : List AItem} {k : List Item} (hw : WaitR E J h lo hi T n a l k) (e : Evolve J J' h h' hi) : WaitR E J' h' lo hi T n a l k := by
  cases hw with
  | plain ht hd hk => exact .plain (ht.mono e.ext) hd hk
  | @dreg ops listed pend X i o r' l k hr hb ho hbit hap hk =>
    refine .dreg (hr.evolve (pend' := pend) (p := fun _ => true) (List.filter_eq_self.2 (fun _ _ => rfl)).symm (fun m _ e => by simp at e) e.ext e.nx (fun m hm b hmb => e.old b (hb m hm b hmb)) (fun m hm b hmb oi => e.find b (hb m hm b hmb) oi)) hb ho hbit hap hk

theorem CsR.evolve {E : Env} {J J' : Jn} {h h' : Hp} {cs0 : List Frame} : ∀ {cs : List AFr} {hi : Nat} {fs : List Frame}, CsR E J h cs0 hi cs fs → Evolve J J' h h' hi → CsR E J' h' cs0 hi cs fs
  | [], _, _, hc, _ => hc
  | _ :: _, _, _, ⟨b, a, k, fs', lo, h1, h2, h3, h4, h5, h6⟩, e => ⟨b, a, k, fs', lo, h1, h2, h3, h4, h5.evolve e, h6.evolve (e.le h4)⟩

/-- The frame that runs, or that is about to hand back what it has come to. -/
inductive TopR (E : Env) (J : Jn) (h : Hp) (lo : Nat) (fn : FuncId) (T : Tr AV) (n : Nat) (todo : List AItem) : AMode → Frame → Prop where
  | run {b : Frame} {a : Act} {k : List Item} (hf : b.fn = fn) (hk : b.kind = .normal) (ha : a.defers = []) (ht : TodoR E J h lo T n a todo k) : TopR E J h lo fn T n todo .run (b.at a k)
  | ret {b : Frame} {a : Act} {k : List Item} (hf : b.fn = fn) (hk : b.kind = .normal) (ha : a.defers = []) (ht : TR J T n a.tmps) : TopR E J h lo fn T n todo .returning { b.at a k with mode := .returning }

/-- A state of the machine. -/
def SR (E : Env) (w0 : World) (cs0 : List Frame) : ASt → Machine → Prop
  | ⟨⟨fn, T, n, todo, defers, mode, kind, round⟩, cs, h⟩, m => ∃ J w f fs lo, m = lone f fs w ∧ HR w0 J h w ∧ GlobOk E J ∧ lo ≤ h.nx ∧ defers = [] ∧ kind = .normal ∧ round = none ∧
      TopR E J h lo fn T n todo mode f ∧ CsR E J h cs0 lo cs fs

section
variable {E : Env} {w0 : World} {cs0 : List Frame} {J : Jn} {h : Hp} {w : World} {lo : Nat} {T : Tr AV} {n : Nat}

/-- An operation of a frame that waits has come to a value. -/
theorem finish_sound (hm : E.more = false) {hi : Nat} {a : Act} {todo : List AItem} {k : List Item} {b : Frame} (hw : WaitR E J h lo hi T n a todo k) {v : AV} {c : Value} (hv : VR J v c) {T' : Tr AV} {todo' : List AItem}
    (hf : finishA E h T n todo v = some (T', todo')) : ∃ a' k', (b.at a k).finish c = b.at a' k' ∧ a'.defers = a.defers ∧ TodoR E J h lo T' n a' todo' k' := by
  cases hw with
  | @plain ops i o t l k ht hd hk =>
    simp only [finishA] at hf
    split at hf
    · rename_i T2 hput
      simp at hf
      obtain ⟨rfl, rfl⟩ := hf
      have ho : ops[i]? = some o := by
        have : (ops.toList.drop i)[0]? = some o := by rw [hd]; rfl
        simpa using this
      refine ⟨a.put o.dst c, .inRegion ops (List.range' (i + 1) t.length) :: k, ?_, Act.put_defers _ _ _, .plain (ht.put hput hv fun _ _ _ => fun f => f) ⟨_, rfl, ?_, hk⟩⟩
      · rw [Frame.finish_at, ho]; rfl
      · have : ops.toList.drop (i + 1) = (ops.toList.drop i).drop 1 := by rw [List.drop_drop]
        rw [this, hd]; rfl
    · simp at hf
  | @dreg ops listed pend X i o r' l k hr hb ho hbit hap hk =>
    simp only [finishA] at hf
    split at hf
    · rename_i T2 hput
      rw [cond_eq_ite] at hf
      split at hf
      · rename_i hs
        simp at hf
        obtain ⟨rfl, rfl⟩ := hf
        have hr2 := hr.finish ho hbit hap hv hput
        refine ⟨a.put o.dst c, .inRegion ops r' :: k, by rw [Frame.finish_at, ho]; rfl, Act.put_defers _ _ _, .dreg hr2 (holdsStill_sound hm hr2.fact hs) hk⟩
      · simp at hf
    · simp at hf

/-- A frame that waited goes on. -/
theorem goOn_sound (hm : E.more = false) {fn : FuncId} {todo : List AItem} {defers : List ATgt} {kind : CallKind} {round : Option Nat} {cs : List AFr} {s : ASt} {hi : Nat} {b : Frame} {a : Act} {k : List Item} {fs : List Frame} {v : AV} {c : Value}
    (hh : HR w0 J h w) (hg : GlobOk E J) (hfr : FrameIs fn defers kind round b a) (hlo : lo ≤ hi) (hhi : hi ≤ h.nx) (hw : WaitR E J h lo hi T n a todo k) (hcs : CsR E J h cs0 lo cs fs) (hv : VR J v c)
    (hgo : goOn E fn T n todo defers kind round cs h v = some s) : SR E w0 cs0 s (lone ((b.at a k).finish c) fs w) := by
  unfold goOn at hgo
  split at hgo
  · rename_i T' todo' hf
    simp at hgo; subst hgo
    obtain ⟨a', k', h1, h2, h3⟩ := finish_sound (b := b) hm hw hv hf
    exact ⟨J, w, _, fs, lo, rfl, hh, hg, by omega, hfr.defers, hfr.kind, hfr.round, by rw [h1]; exact .run hfr.fn hfr.bk (h2.trans hfr.ad) h3, hcs⟩
  · simp at hgo

end
end Go.Ev
