/- The relation between a region part of which was taken ahead and the model's region. No conditions. -/
import Derived.Test.YtoiclimflfdaeaaGreatDoorEvM1
set_option linter.unusedSimpArgs false
set_option linter.unusedVariables false
set_option linter.constructorNameAsVariable false
namespace Go.Ev
open Go.RowKit (Below)

/-- What an operation looks at is known. -/
def Seen (J : Jn) (T : Tr AV) (tmps : Array Value) (ops : Array Oper) (o : Oper) : Prop := ∀ d, sees ops o d = true → VR J (tmp T d) (tmps.getD d undef)

theorem sees_tmp {ops : Array Oper} {o : Oper} {t : Nat} (h : Operand.tmp t ∈ o.op.operands) : sees ops o t = true := by
  unfold sees
  rw [Bool.or_eq_true]
  left
  rw [List.any_eq_true]
  exact ⟨.tmp t, by simpa using h, Nat.beq_refl t⟩

theorem sees_guard {ops : Array Oper} {o : Oper} {g : Nat} {want : Bool} {x : Oper} {t : Nat} (h : o.guard = some (g, want)) (hx : ops[g]? = some x) (ht : x.dst = some t) : sees ops o t = true := by
  unfold sees
  rw [h]
  simp only [hx, ht, Nat.beq_refl, Bool.or_true]

theorem eval_sound {E : Env} {J : Jn} {T : Tr AV} {a : Act} {ops : Array Oper} {o : Oper} (hg : GlobOk E J) (hs : Seen J T a.tmps ops o) : ∀ x ∈ o.op.operands, VR J (evalA E T x) (a.eval x) := by
  intro x hx
  cases x with
  | tmp t => exact hs t (sees_tmp hx)
  | const v => exact VR.vv v
  | global g =>
    simp only [evalA, cond_eq_ite]
    split
    · rename_i e
      obtain ⟨K, e⟩ := hg.glob g e
      exact ⟨g, K, e, rfl⟩
    · exact VR.vv _
  | func f => exact VR.vv _

theorem evalA_congr {E : Env} {T T' : Tr AV} {ops : Array Oper} {o : Oper} (h : ∀ d, sees ops o d = true → tmp T d = tmp T' d) : ∀ x ∈ o.op.operands, evalA E T x = evalA E T' x := by
  intro x hx
  cases x with
  | tmp t => exact h t (sees_tmp hx)
  | const v => rfl
  | global g => rfl
  | func f => rfl

theorem wantedA_congr {T T' : Tr AV} {ops : Array Oper} {o : Oper} (h : ∀ d, sees ops o d = true → tmp T d = tmp T' d) : wantedA o ops T = wantedA o ops T' := by
  unfold wantedA
  split
  · rfl
  · rename_i j want hgd
    split
    · rename_i x hx
      split
      · rename_i d hd
        rw [h d (sees_guard hgd hx hd)]
      · rfl
    · rfl

theorem not_bool {J : Jn} {x : AV} {b : Bool} (h : VR J x (.bool b)) : x = .v (.bool b) := by
  cases x with
  | v y => simp [VR] at h; rw [h]
  | ptr _ _ => obtain ⟨_, _, _, e⟩ := h; simp at e
  | sl _ _ _ _ => obtain ⟨_, _, _, e⟩ := h; simp at e
  | slu _ _ _ _ => obtain ⟨_, _, _, e⟩ := h; simp at e
  | sle _ => obtain ⟨_, _, _, _, _, e⟩ := h; simp at e
  | map _ => obtain ⟨_, _, _, e⟩ := h; simp at e
  | func _ _ _ => obtain ⟨_, _, _, _, e⟩ := h; simp at e
  | yield _ => obtain ⟨_, _, _, e⟩ := h; simp at e
  | iface _ _ => obtain ⟨_, _, e⟩ := h; simp at e
  | agg _ => obtain ⟨_, _, e⟩ := h; simp at e
  | tup _ => obtain ⟨_, _, e⟩ := h; simp at e
  | oi _ _ => obtain ⟨_, _, _, e⟩ := h; simp at e
  | osl _ => obtain ⟨_, _, _, _, e⟩ := h; simp at e

theorem wanted_sound {J : Jn} {T : Tr AV} {tmps : Array Value} {ops : Array Oper} {o : Oper} (hs : Seen J T tmps ops o) : Region.wanted o (yielded ops tmps) = wantedA o ops T := by
  unfold Region.wanted wantedA
  cases hg : o.guard with
  | none => rfl
  | some p =>
    obtain ⟨j, want⟩ := p
    simp only
    unfold yielded
    cases hx : ops[j]? with
    | none => simp
    | some x =>
      simp only [Option.bind_some]
      cases hd : x.dst with
      | none => simp
      | some d =>
        simp only [Option.bind_some]
        have hv := hs d (sees_guard hg hx hd)
        cases ht : tmps[d]? with
        | none =>
          have : tmps.getD d undef = undef := by simp [Array.getD_eq_getD_getElem?, ht]
          rw [this] at hv
          simp only
          split
          · rename_i b e; rw [e] at hv; simp [VR, undef] at hv
          · rfl
        | some c =>
          have : tmps.getD d undef = c := by simp [Array.getD_eq_getD_getElem?, ht]
          rw [this] at hv
          cases c with
          | bool b =>
            rw [not_bool hv]
            rfl
          | _ =>
            simp only
            split
            · rename_i b e; rw [e] at hv; simp [VR] at hv
            · rfl

/-- A temporary is written. -/
theorem putT_eq {T T' : Tr AV} {n : Nat} {d : Option Tmp} {v : AV} (h : putT T n d v = some T') : (d = none ∧ T' = T) ∨ ∃ t : Nat, d = some t ∧ t < n ∧ T' = T.upd bits t (some v) := by
  unfold putT at h
  split at h
  · rw [cond_eq_ite] at h
    split at h
    · rename_i d hlt
      simp at h
      exact .inr ⟨d, rfl, by simpa [Nat.blt_eq] using hlt, h.symm⟩
    · simp at h
  · simp at h; exact .inl ⟨rfl, h.symm⟩

theorem tmp_upd {T : Tr AV} {t : Nat} {v : AV} {d : Nat} (h : t ≤ 1000000) : tmp (T.upd bits t (some v)) d = if d = t then v else tmp T d := by
  unfold tmp
  rw [find_upd h]
  by_cases e : d = t
  · rw [if_pos e, if_pos e]
  · rw [if_neg e, if_neg e]

theorem TRx.put {J : Jn} {ex ex' : Nat → Prop} {T T' : Tr AV} {n : Nat} {a : Act} {d : Option Tmp} {v : AV} {c : Value} (h : TRx J ex T n a.tmps) (hp : putT T n d v = some T') (hv : VR J v c)
    (hex : ∀ t, ¬ ex' t → d ≠ some t → ¬ ex t) : TRx J ex' T' n (a.put d c).tmps := by
  rcases putT_eq hp with ⟨rfl, rfl⟩ | ⟨t, rfl, hlt, rfl⟩
  · exact ⟨h.1, h.2.1, fun t ht => h.2.2 t (hex t ht (by simp))⟩
  · have hn := h.2.1
    refine ⟨by simp [Act.put, h.1], hn, fun j hj => ?_⟩
    rw [tmp_upd (by omega)]
    simp only [Act.put]
    by_cases e : j = t
    · subst e
      have hlt' : j < a.tmps.size := by rw [h.1]; exact hlt
      rw [if_pos rfl]
      simpa [Array.getD_eq_getD_getElem?, Array.getElem?_setIfInBounds, hlt'] using hv
    · rw [if_neg e]
      have := h.2.2 j (hex j hj (by simp; omega))
      simpa [Array.getD_eq_getD_getElem?, Array.getElem?_setIfInBounds, Ne.symm e] using this

theorem Act.put_defers (a : Act) (d : Option Tmp) (c : Value) : (a.put d c).defers = a.defers := by
  unfold Act.put; split <;> rfl

/-! Operations taken ahead. -/
structure PendAt (ops : Array Oper) (listed : Nat) (m : Pend) : Prop where
  op : ops[m.i]? = some m.o
  bit : listed.testBit m.i = true
  rdy : ready m.o listed = true
  notself : behind m.o m.i = false
  self : selfOk ops m.o = true

def PendOk (ops : Array Oper) (listed : Nat) : List Pend → Prop
  | [] => True
  | m :: l => PendAt ops listed m ∧ (∀ m' ∈ l, m'.i ≠ m.i ∧ behind m'.o m.i = false ∧ apartA ops m' m.o = true ∧ ∀ b, m.b = some b → m'.b ≠ some b) ∧ PendOk ops listed l

theorem PendOk.at {ops : Array Oper} {listed : Nat} {l : List Pend} (h : PendOk ops listed l) : ∀ m ∈ l, PendAt ops listed m := by
  induction l with
  | nil => intro m hm; simp at hm
  | cons x l ih =>
    intro m hm
    rcases List.mem_cons.1 hm with rfl | hm
    · exact h.1
    · exact ih h.2.2 m hm

/-- What one of them writes another one looks at only if it must wait for it. -/
theorem apart_sees {ops : Array Oper} {m : Pend} {o : Oper} (h : apartA ops m o = true) :
    (∀ d, o.dst = some d → sees ops m.o d = false ∧ m.o.dst ≠ some d) ∧ ∀ d, m.o.dst = some d → sees ops o d = true → behind o m.i = true := by
  unfold apartA at h
  rw [Bool.and_eq_true] at h
  constructor
  · intro d hd
    have h1 := h.1
    rw [hd] at h1
    simp only [Bool.and_eq_true, Bool.not_eq_true'] at h1
    refine ⟨h1.1, fun e => ?_⟩
    have h2 := h1.2
    unfold dstIs at h2
    rw [e] at h2
    simp at h2
  · intro d hd hs
    have h2 := h.2
    rw [hd] at h2
    simp only [hs, Bool.not_true, Bool.false_or] at h2
    exact h2

theorem PendOk.sees {ops : Array Oper} {listed : Nat} {l : List Pend} (h : PendOk ops listed l) : ∀ m ∈ l, ∀ m' ∈ l, ∀ d, m'.o.dst = some d → sees ops m.o d = true → behind m.o m'.i = true := by
  induction l with
  | nil => intro m hm; simp at hm
  | cons x l ih =>
    intro m hm m' hm' d hd hs
    obtain ⟨hx, hxl, hl⟩ := h
    rcases List.mem_cons.1 hm with rfl | hm2
    · rcases List.mem_cons.1 hm' with rfl | hm2'
      · have := hx.self
        unfold selfOk at this
        rw [hd] at this
        simp [hs] at this
      · exact (apart_sees (hxl m' hm2').2.2.1).2 d hd hs
    · rcases List.mem_cons.1 hm' with rfl | hm2'
      · have := ((apart_sees (hxl m hm2).2.2.1).1 d hd).1
        rw [hs] at this; simp at this
      · exact ih hl m hm2 m' hm2' d hd hs

theorem PendOk.dst {ops : Array Oper} {listed : Nat} {l : List Pend} (h : PendOk ops listed l) : ∀ m ∈ l, ∀ m' ∈ l, ∀ d, m.o.dst = some d → m'.o.dst = some d → m = m' := by
  induction l with
  | nil => intro m hm; simp at hm
  | cons x l ih =>
    intro m hm m' hm' d hd hd'
    obtain ⟨_, hxl, hl⟩ := h
    rcases List.mem_cons.1 hm with rfl | hm2
    · rcases List.mem_cons.1 hm' with rfl | hm2'
      · rfl
      · exact (((apart_sees (hxl m' hm2').2.2.1).1 d hd).2 hd').elim
    · rcases List.mem_cons.1 hm' with rfl | hm2'
      · exact (((apart_sees (hxl m hm2).2.2.1).1 d hd').2 hd).elim
      · exact ih hl m hm2 m' hm2' d hd hd'

theorem PendOk.idx {ops : Array Oper} {listed : Nat} {l : List Pend} (h : PendOk ops listed l) : ∀ m ∈ l, ∀ m' ∈ l, m.i = m'.i → m = m' := by
  induction l with
  | nil => intro m hm; simp at hm
  | cons x l ih =>
    intro m hm m' hm' e
    obtain ⟨_, hxl, hl⟩ := h
    rcases List.mem_cons.1 hm with rfl | hm2
    · rcases List.mem_cons.1 hm' with rfl | hm2'
      · rfl
      · exact ((hxl m' hm2').1 e.symm).elim
    · rcases List.mem_cons.1 hm' with rfl | hm2'
      · exact ((hxl m hm2).1 e).elim
      · exact ih hl m hm2 m' hm2' e

theorem PendOk.names {ops : Array Oper} {listed : Nat} {l : List Pend} (h : PendOk ops listed l) : ∀ m ∈ l, ∀ m' ∈ l, ∀ b, m.b = some b → m'.b = some b → m = m' := by
  induction l with
  | nil => intro m hm; simp at hm
  | cons x l ih =>
    intro m hm m' hm' b e e'
    obtain ⟨_, hxl, hl⟩ := h
    rcases List.mem_cons.1 hm with rfl | hm2
    · rcases List.mem_cons.1 hm' with rfl | hm2'
      · rfl
      · exact ((hxl m' hm2').2.2.2 b e e').elim
    · rcases List.mem_cons.1 hm' with rfl | hm2'
      · exact ((hxl m hm2).2.2.2 b e' e).elim
      · exact ih hl m hm2 m' hm2' b e e'

theorem ready_mono {o : Oper} {l l' : Nat} (h : ∀ i, l.testBit i = true → l'.testBit i = true) (hr : ready o l = true) : ready o l' = true :=
  ready_iff.2 fun e he hb => h _ (ready_iff.1 hr e he hb)

theorem PendOk.mono {ops : Array Oper} {l l' : Nat} (h : ∀ i, l.testBit i = true → l'.testBit i = true) {p : List Pend} (hp : PendOk ops l p) : PendOk ops l' p := by
  induction p with
  | nil => trivial
  | cons x p ih => exact ⟨⟨hp.1.op, h _ hp.1.bit, ready_mono h hp.1.rdy, hp.1.notself, hp.1.self⟩, hp.2.1, ih hp.2.2⟩

/-- What an operation that was taken ahead comes to. -/
def Val (E : Env) (h : Hp) (T : Tr AV) (m : Pend) : Prop := ∃ v, aopA E h (evalA E T) m.o = some (.value v, h) ∧ ∀ d, m.o.dst = some d → ∀ J c, VR J v c → VR J (tmp T d) c

def FreshFact (E : Env) (T : Tr AV) (m : Pend) (b : Nat) (oi : AObj) : Prop :=
  ∀ J w ρc, (∀ x ∈ m.o.op.operands, VR J (evalA E T x) (ρc x)) → ∃ c obj K, (execOp ρc m.o).run E.P w = .ok (.value c) { w with heap := w.heap.push obj } ∧
    ∀ J', Jext J J' → J' b = some (w.heap.size, K) → (∀ d, m.o.dst = some d → VR J' (tmp T d) c) ∧ Sat J' { w with heap := w.heap.push obj } w.heap.size K oi

def Fact (E : Env) (ops : Array Oper) (T : Tr AV) (m : Pend) : Prop :=
  (wantedA m.o ops T = false ∧ ∀ d, m.o.dst = some d → tmp T d = U) ∨ (wantedA m.o ops T = true ∧ quiet m.o = true ∧ (looks m.o = false → ∀ h, Val E h T m))

def LookFact (E : Env) (ops : Array Oper) (h : Hp) (T : Tr AV) (m : Pend) : Prop := m.b = none → wantedA m.o ops T = true → looks m.o = true → Val E h T m

theorem Val.congr {E : Env} {h : Hp} {T T' : Tr AV} {m : Pend} {ops : Array Oper} (hs : ∀ d, sees ops m.o d = true → tmp T d = tmp T' d) (hd : ∀ d, m.o.dst = some d → tmp T d = tmp T' d) (hv : Val E h T m) : Val E h T' m := by
  obtain ⟨v, h1, h2⟩ := hv
  refine ⟨v, ?_, fun d e J c hc => ?_⟩
  · rw [← aopA_congr (evalA_congr hs)]; exact h1
  · rw [← hd d e]; exact h2 d e J c hc

theorem FreshFact.congr {E : Env} {T T' : Tr AV} {m : Pend} {b : Nat} {oi : AObj} {ops : Array Oper} (hs : ∀ d, sees ops m.o d = true → tmp T d = tmp T' d) (hd : ∀ d, m.o.dst = some d → tmp T d = tmp T' d) (hf : FreshFact E T m b oi) : FreshFact E T' m b oi := by
  intro J w ρc hρ
  obtain ⟨c, obj, K, h1, h2⟩ := hf J w ρc fun x hx => by rw [evalA_congr hs x hx]; exact hρ x hx
  refine ⟨c, obj, K, h1, fun J' hj hb => ⟨fun d e => ?_, (h2 J' hj hb).2⟩⟩
  rw [← hd d e]; exact (h2 J' hj hb).1 d e

theorem Fact.congr {E : Env} {ops : Array Oper} {T T' : Tr AV} {m : Pend} (hs : ∀ d, sees ops m.o d = true → tmp T d = tmp T' d) (hd : ∀ d, m.o.dst = some d → tmp T d = tmp T' d) (hf : Fact E ops T m) : Fact E ops T' m := by
  have hw := wantedA_congr hs
  rcases hf with ⟨h1, h2⟩ | ⟨h1, h2, h3⟩
  · exact .inl ⟨by rw [← hw]; exact h1, fun d e => by rw [← hd d e]; exact h2 d e⟩
  · exact .inr ⟨by rw [← hw]; exact h1, h2, fun hl h => (h3 hl h).congr hs hd⟩

theorem LookFact.congr {E : Env} {ops : Array Oper} {h : Hp} {T T' : Tr AV} {m : Pend} (hs : ∀ d, sees ops m.o d = true → tmp T d = tmp T' d) (hd : ∀ d, m.o.dst = some d → tmp T d = tmp T' d) (hf : LookFact E ops h T m) : LookFact E ops h T' m :=
  fun h1 h2 h3 => (hf h1 (by rw [wantedA_congr hs]; exact h2) h3).congr hs hd

/-- The temporaries that are not written yet. -/
def Wait (X : Array Bool) (pend : List Pend) (d : Nat) : Prop := ∃ m ∈ pend, X[m.i]? = some false ∧ m.o.dst = some d

/-- A region that draws its order, part of which was taken ahead. -/
structure DregR (E : Env) (J : Jn) (h : Hp) (lo : Nat) (ops : Array Oper) (listed : Nat) (pend : List Pend) (T : Tr AV) (n : Nat) (tmps : Array Value) (X : Array Bool) (rest : List Nat) : Prop where
  sz : X.size = ops.size
  sched : Sched ops X rest
  un : ∀ i, listed.testBit i = false → i < ops.size → X[i]? = some false
  li : ∀ i, listed.testBit i = true → X[i]? = some true ∨ ∃ m ∈ pend, m.i = i
  pok : PendOk ops listed pend
  tr : TRx J (Wait X pend) T n tmps
  lt : ∀ m ∈ pend, ∀ d, m.o.dst = some d → d < n
  fact : ∀ m ∈ pend, X[m.i]? = some false → m.b = none → Fact E ops T m
  name : ∀ m ∈ pend, ∀ b, m.b = some b → lo ≤ b ∧ b < h.nx ∧ (X[m.i]? = some true → ∃ x, J b = some x) ∧
    (X[m.i]? = some false → J b = none ∧ ∃ oi, h.H.find b = some (true, oi) ∧ wantedA m.o ops T = true ∧ FreshFact E T m b oi)

def Looks (E : Env) (ops : Array Oper) (h : Hp) (T : Tr AV) (X : Array Bool) (pend : List Pend) : Prop := ∀ m ∈ pend, X[m.i]? = some false → LookFact E ops h T m

section
variable {E : Env} {J : Jn} {h : Hp} {lo : Nat} {ops : Array Oper} {listed : Nat} {pend : List Pend} {T : Tr AV} {n : Nat} {tmps : Array Value} {X : Array Bool} {rest : List Nat}

theorem sched_head {i : Nat} (hs : Sched ops X (i :: rest)) : X.getD i true = false ∧ (∃ o, ops[i]? = some o ∧ ∀ e ∈ o.after, Region.binds .any e = true → X[e.on]? = some true) ∧ Sched ops (X.setIfInBounds i true) rest := by
  obtain ⟨h1, h2⟩ := hs
  obtain ⟨h3, o, h4, h5⟩ := mem_ready.1 h1
  refine ⟨by simpa using h3, ⟨o, h4, fun e he hb => ?_⟩, h2⟩
  have hx := h5 e he hb
  · cases hx' : X[e.on]? with
    | none => rw [Array.getD_eq_getD_getElem?, hx'] at hx; simp at hx
    | some b => rw [Array.getD_eq_getD_getElem?, hx'] at hx; simp at hx; rw [hx]

end
end Go.Ev
