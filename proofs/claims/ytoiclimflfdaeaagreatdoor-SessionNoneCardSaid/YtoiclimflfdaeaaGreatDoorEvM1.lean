/- Orders of a region; what an operation comes to depends on what it looks at alone. No conditions. -/
import Derived.Test.YtoiclimflfdaeaaGreatDoorEvKeep
set_option linter.unusedSimpArgs false
set_option linter.unusedVariables false
set_option linter.constructorNameAsVariable false
namespace Go.Ev
open Go.RowKit (Below)

/-! Orders of a region. -/
def Sched (ops : Array Oper) : Array Bool → List Nat → Prop
  | X, [] => Region.ready .any ops X = []
  | X, i :: rest => i ∈ Region.ready .any ops X ∧ Sched ops (X.setIfInBounds i true) rest

theorem count_set (X : List Bool) : ∀ (i : Nat), X[i]? = some false → (X.set i true).countP (· == false) + 1 = X.countP (· == false) := by
  induction X with
  | nil => intro i h; simp at h
  | cons x X ih =>
    intro i h
    cases i with
    | zero => simp at h; subst h; simp
    | succ i =>
      have := ih i (by simpa using h)
      simp only [List.set_cons_succ, List.countP_cons]
      omega

theorem ready_false {md : Region.Mode} {ops : Array Oper} {X : Array Bool} {i : Nat} (hsz : X.size = ops.size) (h : i ∈ Region.ready md ops X) : X.toList[i]? = some false := by
  obtain ⟨h1, o, h2, _⟩ := mem_ready.1 h
  have hlt : i < X.size := by rw [hsz]; exact (Array.getElem?_eq_some_iff.1 h2).1
  simp [hlt] at h1
  simp [hlt, h1]

theorem sched_go (ops : Array Oper) : ∀ (fuel t : Nat) (X : Array Bool), X.size = ops.size → X.toList.countP (· == false) ≤ fuel → Sched ops X (Region.linearise.go .any ops fuel t X [])
  | 0, t, X, hsz, hc => by
    simp only [Region.linearise.go, List.reverse_nil, Sched]
    rw [List.eq_nil_iff_forall_not_mem]
    intro i hi
    have h1 := ready_false hsz hi
    have h0 : X.toList.countP (· == false) = 0 := by omega
    rw [List.countP_eq_zero] at h0
    exact h0 false (List.mem_of_getElem? h1) rfl
  | fuel + 1, t, X, hsz, hc => by
    simp only [Region.linearise.go]
    change Sched ops X (match (Region.ready .any ops X)[t % (Region.ready .any ops X).length]? with
      | some i => Region.linearise.go .any ops fuel (t / (Region.ready .any ops X).length) (X.setIfInBounds i true) [i]
      | none => [].reverse)
    cases hi : (Region.ready .any ops X)[t % (Region.ready .any ops X).length]? with
    | none =>
      simp only [List.reverse_nil, Sched]
      cases hr : Region.ready .any ops X with
      | nil => rfl
      | cons x xs =>
        rw [hr] at hi
        have hlt : t % (x :: xs).length < (x :: xs).length := Nat.mod_lt _ (by simp)
        rw [List.getElem?_eq_getElem hlt] at hi
        simp at hi
    | some i =>
      simp only
      rw [linearise_go_acc]
      have hmem := List.mem_of_getElem? hi
      refine ⟨hmem, ?_⟩
      refine sched_go ops fuel _ _ (by simpa using hsz) ?_
      have := count_set X.toList i (ready_false hsz hmem)
      simp only [Array.toList_setIfInBounds]
      omega

theorem sched_start (ops : Array Oper) (t : Nat) : Sched ops (Array.replicate ops.size false) (Region.linearise .any ops t) :=
  sched_go ops ops.size t _ (by simp) (Nat.le_trans List.countP_le_length (by simp))

theorem bit_or (l i j : Nat) : (Nat.lor l (2 ^ i)).testBit j = (l.testBit j || decide (i = j)) := by
  have : Nat.lor l (2 ^ i) = l ||| 2 ^ i := rfl
  rw [this, Nat.testBit_or, Nat.testBit_two_pow]

theorem pick_some {p : Oper → Bool} {listed : Nat} : ∀ {l : List Oper} {k i : Nat} {o : Oper}, pickOp p listed k l = some (i, o) → k ≤ i ∧ l[i - k]? = some o ∧ listed.testBit i = false ∧ p o = true ∧ ready o listed = true
  | [], _, _, _, h => by simp [pickOp] at h
  | x :: l, k, i, o, h => by
    simp only [pickOp] at h
    rw [cond_eq_ite] at h
    split at h
    · rename_i hc
      simp at h hc
      obtain ⟨rfl, rfl⟩ := h
      exact ⟨Nat.le_refl _, by simp, hc.1.1, hc.1.2, hc.2⟩
    · obtain ⟨h1, h2, h3⟩ := pick_some h
      refine ⟨by omega, ?_, h3⟩
      rw [show i - k = (i - (k + 1)) + 1 by omega]
      simpa using h2

theorem pick_none {p : Oper → Bool} {listed : Nat} : ∀ {l : List Oper} {k : Nat}, pickOp p listed k l = none → ∀ i o, k ≤ i → l[i - k]? = some o → listed.testBit i = false → ready o listed = true → p o = false
  | [], _, _, _, _, _, h, _, _ => by simp at h
  | x :: l, k, h, i, o, hk, ho, hb, hr => by
    simp only [pickOp] at h
    rw [cond_eq_ite] at h
    split at h
    · simp at h
    · rename_i hc
      by_cases e : i = k
      · subst e
        simp at ho; subst ho
        cases hp : p x
        · rfl
        · exact (hc (by simp [hb, hp, hr])).elim
      · rw [show i - k = (i - (k + 1)) + 1 by omega] at ho
        exact pick_none h i o (by omega) (by simpa using ho) hb hr

theorem ready_iff {o : Oper} {listed : Nat} : ready o listed = true ↔ ∀ e ∈ o.after, Region.binds .any e = true → listed.testBit e.on = true := by
  unfold ready
  rw [List.all_eq_true]
  constructor
  · intro h e he hb
    have := h e (by simpa using he)
    simpa [hb] using this
  · intro h e he
    cases hb : Region.binds .any e
    · simp
    · simp [h e (by simpa using he) hb]

theorem behind_iff {o : Oper} {i : Nat} : behind o i = true ↔ ∃ e ∈ o.after, Region.binds .any e = true ∧ e.on = i := by
  unfold behind
  rw [List.any_eq_true]
  constructor
  · rintro ⟨e, he, hb⟩
    simp at hb
    exact ⟨e, by simpa using he, hb.1, hb.2⟩
  · rintro ⟨e, he, hb, rfl⟩
    exact ⟨e, by simpa using he, by simp [hb]⟩

/-! What an operation is asked depends on what it looks at alone. -/
theorem mapAV_congr {ρ ρ' : Operand → AV} : ∀ {l : List Operand}, (∀ x ∈ l, ρ x = ρ' x) → mapAV ρ l = mapAV ρ' l
  | [], _ => rfl
  | x :: l, h => by simp only [mapAV]; rw [h x (by simp), mapAV_congr fun y hy => h y (by simp [hy])]

theorem pairs_congr {ρ ρ' : Operand → AV} : ∀ {l : List (Nat × Operand)}, (∀ p ∈ l, ρ p.2 = ρ' p.2) → pairs ρ l = pairs ρ' l
  | [], _ => rfl
  | (i, x) :: l, h => by simp only [pairs]; rw [h (i, x) (by simp), pairs_congr fun y hy => h y (by simp [hy])]

theorem opt_congr {ρ ρ' : Operand → AV} {x : Option Operand} (h : ∀ y, x = some y → ρ y = ρ' y) : optAV ρ x = optAV ρ' x := by
  cases x with
  | none => rfl
  | some y => simp only [optAV]; rw [h y rfl]

theorem pureOp_congr {P : Program} {ρ ρ' : Operand → AV} {o : Oper} (hs : ∀ cs b, o.op ≠ .select cs b) (h : ∀ x ∈ o.op.operands, ρ x = ρ' x) : pureOp P ρ o = pureOp P ρ' o := by
  unfold pureOp
  rw [mapAV_congr (ρ := ρ) (ρ' := ρ') fun x hx => h x (by simpa using hx)]
  rw [execOp_congr (ρ := fun x => ((ρ x).pure?).getD (.tuple #[])) (ρ' := fun x => ((ρ' x).pure?).getD (.tuple #[])) o hs fun x hx => by simp only [h x hx]]

theorem aopA_congr {E : Env} {h : Hp} {ρ ρ' : Operand → AV} {o : Oper} (hc : ∀ x ∈ o.op.operands, ρ x = ρ' x) : aopA E h ρ o = aopA E h ρ' o := by
  by_cases hs : ∃ cs b, o.op = .select cs b
  · obtain ⟨cs, b, e⟩ := hs
    unfold aopA
    rw [e]
  · have hp := pureOp_congr (P := E.P) (ρ := ρ) (ρ' := ρ') (o := o) (fun cs b e => hs ⟨cs, b, e⟩) hc
    unfold aopA
    cases ho : o.op with
    | build t ps => rw [ho] at hc; simp only; rw [pairs_congr fun p hp => hc p.2 (by simp [Op.operands]; exact ⟨p.1, by simpa using hp⟩)]
    | buildSlice t n ps => rw [ho] at hc; simp only; rw [pairs_congr fun p hp => hc p.2 (by simp [Op.operands]; exact ⟨p.1, by simpa using hp⟩)]
    | slice t x lo hi mx =>
      rw [ho] at hc
      simp only
      rw [hp, hc x (by simp [Op.operands]), opt_congr (x := lo) fun y e => hc y (by simp [Op.operands, e]), opt_congr (x := hi) fun y e => hc y (by simp [Op.operands, e]), opt_congr (x := mx) fun y e => hc y (by simp [Op.operands, e])]
    | makeFunc fn f c =>
      rw [ho] at hc
      simp only
      rw [mapAV_congr (l := f.toList) fun x hx => hc x (by simp [Op.operands]; exact .inl (by simpa using hx)), mapAV_congr (l := c.toList) fun x hx => hc x (by simp [Op.operands]; exact .inr (by simpa using hx))]
    | makeMap t r =>
      rw [ho] at hc
      cases r with
      | none => rfl
      | some x => simp only; rw [hc x (by simp [Op.operands])]
    | call c =>
      obtain ⟨callee, args, ats⟩ := c
      rw [ho] at hc
      have ha := mapAV_congr (ρ := ρ) (ρ' := ρ') (l := args.toList) fun x hx => hc x (by simp [Op.operands, Call.operands]; exact .inr (by simpa using hx))
      cases callee with
      | builtin b => simp only; rw [hp, ha]
      | value f => simp only; rw [ha, hc f (by simp [Op.operands, Call.operands])]
      | invoke r m => rfl
    | move x => rw [ho] at hc; simp only; rw [hc x (by simp [Op.operands])]
    | assign x => rw [ho] at hc; simp only; rw [hc x (by simp [Op.operands])]
    | pick c a b => rw [ho] at hc; simp only; rw [hc c (by simp [Op.operands]), hc a (by simp [Op.operands]), hc b (by simp [Op.operands])]
    | box e x => rw [ho] at hc; simp only; rw [hc x (by simp [Op.operands])]
    | load t a => rw [ho] at hc; simp only; rw [hc a (by simp [Op.operands])]
    | store t a x => rw [ho] at hc; simp only; rw [hc a (by simp [Op.operands]), hc x (by simp [Op.operands])]
    | nilCheck x => rw [ho] at hc; simp only; rw [hc x (by simp [Op.operands])]
    | binOp op t x y yt => rw [ho] at hc; simp only; rw [hp, hc x (by simp [Op.operands]), hc y (by simp [Op.operands])]
    | unOp u t x => simp only; rw [hp]
    | convert s d x => rw [ho] at hc; simp only; rw [hp, hc x (by simp [Op.operands])]
    | makeSlice t l c => rw [ho] at hc; simp only; rw [hc l (by simp [Op.operands]), hc c (by simp [Op.operands])]
    | fieldAddr t x f => rw [ho] at hc; simp only; rw [hc x (by simp [Op.operands])]
    | field t x f => rw [ho] at hc; simp only; rw [hc x (by simp [Op.operands])]
    | indexAddr t x i => rw [ho] at hc; simp only; rw [hc x (by simp [Op.operands]), hc i (by simp [Op.operands])]
    | index t x i => rw [ho] at hc; simp only; rw [hp, hc x (by simp [Op.operands]), hc i (by simp [Op.operands])]
    | lookup t m k ok => rw [ho] at hc; simp only; rw [hc m (by simp [Op.operands]), hc k (by simp [Op.operands])]
    | mapUpdate t m k x => rw [ho] at hc; simp only; rw [hc m (by simp [Op.operands]), hc k (by simp [Op.operands]), hc x (by simp [Op.operands])]
    | insert t m k x => rw [ho] at hc; simp only; rw [hc m (by simp [Op.operands]), hc k (by simp [Op.operands]), hc x (by simp [Op.operands])]
    | extract x i => rw [ho] at hc; simp only; rw [hc x (by simp [Op.operands])]
    | _ => rfl

/-- A quiet operation hands back a value, and leaves memory as it is. -/
theorem quiet_value {E : Env} {h h' : Hp} {ρ : Operand → AV} {o : Oper} {r : AOut} (hq : quiet o = true) (ha : aopA E h ρ o = some (r, h')) : h' = h ∧ ∃ v, r = .value v := by
  have hp : ∀ {x : AOut}, pureOp E.P ρ o = some x → ∃ v, x = .value v := by
    intro x e
    unfold pureOp at e
    (repeat' split at e) <;> first | (simp at e; done) | (simp at e; exact ⟨_, e.symm⟩)
  by_cases hcall : ∃ c, o.op = .call c
  · obtain ⟨⟨callee, args, ats⟩, ho⟩ := hcall
    unfold quiet at hq
    unfold aopA at ha
    rw [ho] at hq ha
    cases callee with
    | builtin b =>
      have hn : ∀ {x : Option (AOut × Hp)}, x = none → x = some (r, h') → h' = h ∧ ∃ v, r = .value v := by intro x e1 e2; rw [e1] at e2; simp at e2
      cases b <;> first
        | (simp at hq; done)
        | (dsimp only at ha
           (repeat' split at ha) <;> first
            | (simp at ha; done)
            | (rename_i hr; simp at ha; obtain ⟨rfl, rfl⟩ := ha; exact ⟨rfl, hp hr⟩)
            | (unfold builtinA? at ha
               dsimp only at ha
               (repeat' split at ha) <;> first
                | (simp at ha; done)
                | (simp at ha; obtain ⟨rfl, rfl⟩ := ha; exact ⟨rfl, _, rfl⟩)))
    | value f => simp at hq
    | invoke r m => simp at hq
  · unfold quiet at hq
    unfold aopA at ha
    dsimp only at ha
    split at ha
    all_goals first
      | (rename_i ho; exact (hcall ⟨_, ho⟩).elim)
      | (rename_i ho; rw [ho] at hq; simp at hq; done)
      | ((repeat' split at ha) <;> first
        | (simp at ha; done)
        | (rename_i hr; simp at ha; obtain ⟨rfl, rfl⟩ := ha; exact ⟨rfl, hp hr⟩)
        | (simp at ha; obtain ⟨rfl, rfl⟩ := ha; exact ⟨rfl, _, rfl⟩))

/-- An operation that does not look at memory comes to the same whatever that holds. -/
theorem quiet_blind {E : Env} {h h2 : Hp} {ρ : Operand → AV} {o : Oper} {v : AV} (hq : quiet o = true) (hl : looks o = false) (ha : aopA E h ρ o = some (.value v, h)) : aopA E h2 ρ o = some (.value v, h2) := by
  unfold quiet at hq
  unfold looks at hl
  unfold aopA at ha ⊢
  cases ho : o.op <;> rw [ho] at hq hl ha <;> dsimp only at ha hl hq ⊢ <;> first
    | (simp at hl; done)
    | (simp at hq; done)
    | (simp at ha; subst ha; rfl)
    | ((repeat' split at ha) <;> simp_all; done)

end Go.Ev
