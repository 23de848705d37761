/- Operations taken ahead keep the relation. No conditions. -/
import Derived.Test.YtoiclimflfdaeaaGreatDoorEvM4
set_option linter.unusedSimpArgs false
set_option linter.unusedVariables false
set_option linter.constructorNameAsVariable false
namespace Go.Ev
open Go.RowKit (Below)

section
variable {E : Env} {w0 : World} {J : Jn} {h : Hp} {w : World} {lo : Nat} {ops : Array Oper} {listed : Nat} {pend : List Pend} {T : Tr AV} {n : Nat} {a : Act} {X : Array Bool} {rest : List Nat}

theorem Looks.grow {h2 : Hp} (hg : ∀ b o, h.get b = some o → h2.get b = some o) (hfact : ∀ m ∈ pend, X[m.i]? = some false → m.b = none → Fact E ops T m) (hl : Looks E ops h T X pend) : Looks E ops h2 T X pend := by
  intro m hm hx hb hw hlk
  obtain ⟨v, h1, h2'⟩ := hl m hm hx hb hw hlk
  have hq : quiet m.o = true := by
    rcases hfact m hm hx hb with ⟨f1, _⟩ | ⟨_, f2, _⟩
    · rw [hw] at f1; simp at f1
    · exact f2
  exact ⟨v, quiet_grow hg hq h1, h2'⟩

theorem Looks.put {T' : Tr AV} {o : Oper} {v : AV} (hn : n ≤ 1000000) (hput : putT T n o.dst v = some T') (hap : ∀ m' ∈ pend, apartA ops m' o = true) (hl : Looks E ops h T X pend) : Looks E ops h T' X pend := by
  intro m hm hx
  have hs := (apart_sees (hap m hm)).1
  have htmp : ∀ d, o.dst ≠ some d → tmp T d = tmp T' d := by
    intro d hd
    rcases putT_eq hput with ⟨_, rfl⟩ | ⟨t, ht, hltt, rfl⟩
    · rfl
    · rw [tmp_upd (by omega), if_neg]
      rintro rfl
      exact hd ht
  refine (hl m hm hx).congr (fun d hd => htmp d fun e => ?_) (fun d hd => htmp d fun e => ?_)
  · rw [(hs d e).1] at hd; simp at hd
  · exact (hs d e).2 hd

theorem self_tmp {T' : Tr AV} {o : Oper} {v : AV} (hn : n ≤ 1000000) (hself : selfOk ops o = true) (hput : putT T n o.dst v = some T') :
    (∀ d, sees ops o d = true → tmp T d = tmp T' d) ∧ ∀ d, o.dst = some d → tmp T' d = v := by
  rcases putT_eq hput with ⟨e, rfl⟩ | ⟨t, ht, hltt, rfl⟩
  · exact ⟨fun _ _ => rfl, fun d hd => by rw [e] at hd; simp at hd⟩
  · refine ⟨fun d hd => ?_, fun d hd => ?_⟩
    · rw [tmp_upd (by omega), if_neg]
      rintro rfl
      unfold selfOk at hself
      rw [ht] at hself
      simp [hd] at hself
    · rw [ht] at hd; simp at hd; subst hd
      rw [tmp_upd (by omega), if_pos rfl]

/-- A quiet operation is taken ahead. -/
theorem DregR.quietPick (hm : E.more = false) (hr : DregR E J h lo ops listed pend T n a.tmps X rest) (hl : Looks E ops h T X pend) {i : Nat} {o : Oper}
    (hp : pickOp (fun o => (quiet o || !wantedA o ops T) && selfOk ops o && pend.all fun m => apartA ops m o) listed 0 ops.toList = some (i, o)) {T' : Tr AV}
    (hc : (wantedA o ops T = true ∧ ∃ v h1, aop E h (evalA E T) o = some (.value v, h1) ∧ putT T n o.dst v = some T') ∨ (wantedA o ops T = false ∧ putT T n o.dst U = some T')) :
    DregR E J h lo ops (Nat.lor listed (2 ^ i)) (⟨i, o, none⟩ :: pend) T' n a.tmps X rest ∧ Looks E ops h T' X (⟨i, o, none⟩ :: pend) := by
  obtain ⟨_, h2, h3, h4, h5⟩ := pick_some hp
  simp only [Bool.and_eq_true, Bool.or_eq_true, Bool.not_eq_true', List.all_eq_true] at h4
  obtain ⟨⟨h6, h7⟩, h8⟩ := h4
  have hop : ops[i]? = some o := by simpa using h2
  have hn := hr.tr.2.1
  rcases hc with ⟨hw, v, h1, ha, hput⟩ | ⟨hw, hput⟩
  · have hq : quiet o = true := by
      rcases h6 with e | e
      · exact e
      · rw [hw] at e; simp at e
    rw [aop_eq hm] at ha
    obtain ⟨rfl, _⟩ := quiet_value hq ha
    obtain ⟨hs1, hs2⟩ := self_tmp hn h7 hput
    have hw' : wantedA o ops T' = true := by rw [← wantedA_congr hs1]; exact hw
    have hval : ∀ h2, aopA E h2 (evalA E T) o = some (.value v, h2) → Val E h2 T' ⟨i, o, none⟩ := by
      intro h2 e
      refine ⟨v, ?_, fun d hd J c hcv => ?_⟩
      · rw [← aopA_congr (evalA_congr hs1)]; exact e
      · rw [hs2 d hd]; exact hcv
    have hfact : Fact E ops T' ⟨i, o, none⟩ := .inr ⟨hw', hq, fun hlk h2 => hval h2 (quiet_blind hq hlk ha)⟩
    refine ⟨hr.more (m := ⟨i, o, none⟩) hop h3 h5 h7 h8 hput (fun _ => hfact) (fun _ _ e => e) (Nat.le_refl _) (fun b hb => by simp at hb), ?_⟩
    intro m' hm' e
    rcases List.mem_cons.1 hm' with rfl | hm2
    · exact fun _ _ _ => hval _ ha
    · exact hl.put hn hput h8 m' hm2 e
  · obtain ⟨hs1, hs2⟩ := self_tmp hn h7 hput
    have hw' : wantedA o ops T' = false := by rw [← wantedA_congr hs1]; exact hw
    have hfact : Fact E ops T' ⟨i, o, none⟩ := .inl ⟨hw', hs2⟩
    refine ⟨hr.more (m := ⟨i, o, none⟩) hop h3 h5 h7 h8 hput (fun _ => hfact) (fun _ _ e => e) (Nat.le_refl _) (fun b hb => by simp at hb), ?_⟩
    intro m' hm' e
    rcases List.mem_cons.1 hm' with rfl | hm2
    · intro _ e2; rw [hw'] at e2; simp at e2
    · exact hl.put hn hput h8 m' hm2 e

theorem get_flag {h' : Hp} {oi : AObj} (hnx : h.nx ≤ 1000000) (hent : ∀ b f o, h.H.find b = some (f, o) → b < h.nx) (hn : h.new oi = some (h.nx, h')) : ∀ c f o, h.H.find c = some (f, o) → (h'.flag h.nx true).H.find c = some (f, o) := by
  intro c f o e
  obtain ⟨_, hlt, rfl⟩ := new_eq hn
  have hc := hent _ _ _ e
  have h1 : (⟨h.H.upd bits h.nx (some (false, oi)), h.nx + 1⟩ : Hp).H.find c = some (f, o) := by
    show (h.H.upd bits h.nx (some (false, oi))).find c = _
    rw [find_upd hnx, if_neg (by omega)]
    exact e
  rw [flag_find (by simp; omega) (fun b f' o' e' => by
    have e2 : (h.H.upd bits h.nx (some (false, oi))).find b = some (f', o') := e'
    rw [find_upd hnx] at e2
    split at e2
    · rename_i eb; simp; omega
    · have := hent _ _ _ e2; simp; omega) h1, if_neg (by omega)]

/-- A new block is told ahead. -/
theorem DregR.freshPick (hm : E.more = false) (hh : HR w0 J h w) (hlo : lo ≤ h.nx) (hr : DregR E J h lo ops listed pend T n a.tmps X rest) (hl : Looks E ops h T X pend) {i : Nat} {o : Oper}
    (hp : pickOp (fun o => fresh o && wantedA o ops T && selfOk ops o && pend.all fun m => apartA ops m o) listed 0 ops.toList = some (i, o)) {T' : Tr AV} {v : AV} {h' : Hp}
    (ha : aop E h (evalA E T) o = some (.value v, h')) (hput : putT T n o.dst v = some T') :
    HR w0 J (h'.flag h.nx true) w ∧ (∀ b oi, h.H.find b = some (true, oi) → (h'.flag h.nx true).H.find b = some (true, oi)) ∧ h.nx ≤ (h'.flag h.nx true).nx ∧
    DregR E J (h'.flag h.nx true) lo ops (Nat.lor listed (2 ^ i)) (⟨i, o, some h.nx⟩ :: pend) T' n a.tmps X rest ∧ Looks E ops (h'.flag h.nx true) T' X (⟨i, o, some h.nx⟩ :: pend) := by
  obtain ⟨_, h2, h3, h4, h5⟩ := pick_some hp
  simp only [Bool.and_eq_true, List.all_eq_true] at h4
  obtain ⟨⟨⟨hf, hw⟩, h7⟩, h8⟩ := h4
  have hop : ops[i]? = some o := by simpa using h2
  have hn := hr.tr.2.1
  rw [aop_eq hm] at ha
  obtain ⟨v', oi, hv', hnew, hfresh⟩ := fresh_core hf ha
  simp at hv'; subst hv'
  obtain ⟨hh2, hfind⟩ := hh.reserve hnew
  obtain ⟨hs1, hs2⟩ := self_tmp hn h7 hput
  have hw' : wantedA o ops T' = true := by rw [← wantedA_congr hs1]; exact hw
  have hff : FreshFact E T' ⟨i, o, some h.nx⟩ h.nx oi := by
    intro J1 w1 ρc hρ
    obtain ⟨c, obj, K, e1, e2⟩ := hfresh J1 w1 ρc fun x hx => by rw [evalA_congr hs1 x hx]; exact hρ x hx
    refine ⟨c, obj, K, e1, fun J' hj hb => ⟨fun d hd => ?_, (e2 J' hj hb).2⟩⟩
    rw [hs2 d hd]; exact (e2 J' hj hb).1
  have hget := get_flag hh.nx hh.ent hnew
  have hnx' : (h'.flag h.nx true).nx = h.nx + 1 := by
    rw [flag_nx]
    obtain ⟨_, _, rfl⟩ := new_eq hnew
    rfl
  refine ⟨hh2, fun b oi e => hget _ _ _ e, by omega, hr.more (m := ⟨i, o, some h.nx⟩) hop h3 h5 h7 h8 hput (fun hb => by simp at hb) (fun b oi e => hget _ _ _ e) (by omega) (fun b hb => ?_), ?_⟩
  · simp at hb; subst hb
    exact ⟨rfl, by omega, hlo, hh.fr _ (Nat.le_refl _), oi, hfind, hw', hff⟩
  · intro m' hm' e
    rcases List.mem_cons.1 hm' with rfl | hm2
    · intro hb; simp at hb
    · have hl2 : Looks E ops (h'.flag h.nx true) T X pend := hl.grow (fun b o e => by
        rw [get_eq] at e ⊢
        exact hget _ _ _ e) hr.fact
      exact hl2.put hn hput h8 m' hm2 e

/-- Settled names. -/
theorem settle_eq (o : Oper) : ∀ (pend : List Pend) (h : Hp), ∃ h', settle o pend h = (pend.filter fun m => !behind o m.i, h') ∧ h'.nx = h.nx ∧
    (∀ w0 J w, HR w0 J h w → (∀ m ∈ pend, behind o m.i = true → ∀ b, m.b = some b → ∃ x, J b = some x) → HR w0 J h' w ∧ ∀ b f oi, h.H.find b = some (f, oi) → (∀ m ∈ pend, behind o m.i = true → m.b ≠ some b) → h'.H.find b = some (f, oi)) := by
  intro pend
  induction pend with
  | nil => intro h; exact ⟨h, rfl, rfl, fun w0 J w hr _ => ⟨hr, fun b f oi e _ => e⟩⟩
  | cons m l ih =>
    intro h
    obtain ⟨h1, e1, n1, k1⟩ := ih h
    by_cases hb : behind o m.i = true
    · cases hmb : m.b with
      | none =>
        refine ⟨h1, by simp [settle, e1, hb, hmb], n1, fun w0 J w hr hx => ?_⟩
        obtain ⟨q1, q2⟩ := k1 w0 J w hr fun m' hm' => hx m' (by simp [hm'])
        exact ⟨q1, fun b f oi e hne => q2 b f oi e fun m' hm' => hne m' (by simp [hm'])⟩
      | some bn =>
        refine ⟨h1.flag bn false, by simp [settle, e1, hb, hmb], by rw [flag_nx, n1], fun w0 J w hr hx => ?_⟩
        obtain ⟨q1, q2⟩ := k1 w0 J w hr fun m' hm' => hx m' (by simp [hm'])
        refine ⟨q1.flag fun _ => hx m (by simp) hb bn hmb, fun b f oi e hne => ?_⟩
        have e2 := q2 b f oi e fun m' hm' => hne m' (by simp [hm'])
        rw [flag_find q1.nx q1.ent e2, if_neg]
        rintro rfl
        exact hne m (by simp) hb hmb
    · refine ⟨h1, by simp [settle, e1, hb], n1, fun w0 J w hr hx => ?_⟩
      obtain ⟨q1, q2⟩ := k1 w0 J w hr fun m' hm' => hx m' (by simp [hm'])
      exact ⟨q1, fun b f oi e hne => q2 b f oi e fun m' hm' => hne m' (by simp [hm'])⟩

theorem settleAll_eq : ∀ (pend : List Pend) (h : Hp), (settleAll pend h).nx = h.nx ∧
    (∀ w0 J w, HR w0 J h w → (∀ m ∈ pend, ∀ b, m.b = some b → ∃ x, J b = some x) → HR w0 J (settleAll pend h) w ∧ ∀ b f oi, h.H.find b = some (f, oi) → (∀ m ∈ pend, m.b ≠ some b) → (settleAll pend h).H.find b = some (f, oi)) := by
  intro pend
  induction pend with
  | nil => intro h; exact ⟨rfl, fun w0 J w hr _ => ⟨hr, fun b f oi e _ => e⟩⟩
  | cons m l ih =>
    intro h
    obtain ⟨n1, k1⟩ := ih h
    cases hmb : m.b with
    | none =>
      have e0 : settleAll (m :: l) h = settleAll l h := by simp [settleAll, hmb]
      rw [e0]
      refine ⟨n1, fun w0 J w hr hx => ?_⟩
      obtain ⟨q1, q2⟩ := k1 w0 J w hr fun m' hm' => hx m' (by simp [hm'])
      exact ⟨q1, fun b f oi e hne => q2 b f oi e fun m' hm' => hne m' (by simp [hm'])⟩
    | some bn =>
      have e0 : settleAll (m :: l) h = (settleAll l h).flag bn false := by simp [settleAll, hmb]
      rw [e0]
      refine ⟨by rw [flag_nx, n1], fun w0 J w hr hx => ?_⟩
      obtain ⟨q1, q2⟩ := k1 w0 J w hr fun m' hm' => hx m' (by simp [hm'])
      refine ⟨q1.flag fun _ => hx m (by simp) bn hmb, fun b f oi e hne => ?_⟩
      have e2 := q2 b f oi e fun m' hm' => hne m' (by simp [hm'])
      rw [flag_find q1.nx q1.ent e2, if_neg]
      rintro rfl
      exact hne m (by simp) hmb

theorem PendOk.filter {p : Pend → Bool} (h : PendOk ops listed pend) : PendOk ops listed (pend.filter p) := by
  induction pend with
  | nil => exact h
  | cons m l ih =>
    simp only [List.filter_cons]
    split
    · exact ⟨h.1, fun m' hm' => h.2.1 m' (List.mem_filter.1 hm').1, ih h.2.2⟩
    · exact ih h.2.2

/-- Those that are done are left out of account, and memory moves on. -/
theorem DregR.evolve (hr : DregR E J h lo ops listed pend T n a.tmps X rest) {J' : Jn} {h' : Hp} {pend' : List Pend} {p : Pend → Bool} (hpe : pend' = pend.filter p) (hdone : ∀ m ∈ pend, p m = false → X[m.i]? = some true)
    (hj : Jext J J') (hnx : h.nx ≤ h'.nx) (hnone : ∀ m ∈ pend', ∀ b, m.b = some b → J b = none → J' b = none)
    (hfind : ∀ m ∈ pend', ∀ b, m.b = some b → ∀ oi, h.H.find b = some (true, oi) → h'.H.find b = some (true, oi)) :
    DregR E J' h' lo ops listed pend' T n a.tmps X rest := by
  subst hpe
  have sub : ∀ m ∈ pend.filter p, m ∈ pend := fun m hm => (List.mem_filter.1 hm).1
  refine ⟨hr.sz, hr.sched, hr.un, ?_, hr.pok.filter, ?_, fun m hm => hr.lt m (sub m hm), fun m hm => hr.fact m (sub m hm), ?_⟩
  · intro i hi
    rcases hr.li i hi with e | ⟨m, hm, e⟩
    · exact .inl e
    · cases hpm : p m with
      | true => exact .inr ⟨m, List.mem_filter.2 ⟨hm, hpm⟩, e⟩
      | false => left; rw [← e]; exact hdone m hm hpm
  · obtain ⟨t1, t2, t3⟩ := hr.tr
    refine ⟨t1, t2, fun t ht => (t3 t ?_).mono hj⟩
    rintro ⟨m, hm, e1, e2⟩
    refine ht ⟨m, List.mem_filter.2 ⟨hm, ?_⟩, e1, e2⟩
    cases hpm : p m with
    | true => rfl
    | false => rw [hdone m hm hpm] at e1; simp at e1
  · intro m hm b hb
    obtain ⟨q1, q2, q3, q4⟩ := hr.name m (sub m hm) b hb
    refine ⟨q1, by omega, fun e => ?_, fun e => ?_⟩
    · obtain ⟨x, hx⟩ := q3 e
      exact ⟨x, hj _ _ hx⟩
    · obtain ⟨q5, oi, q6, q7⟩ := q4 e
      exact ⟨hnone m hm b hb q5, oi, hfind m hm b hb oi q6, q7⟩

/-- The operation that comes up has come to a value. -/
theorem DregR.finish {i : Nat} {r' : List Nat} (hr : DregR E J h lo ops listed pend T n a.tmps X (i :: r')) {o : Oper} (ho : ops[i]? = some o) (hbit : listed.testBit i = false)
    (hap : ∀ m' ∈ pend, apartA ops m' o = true) {v : AV} {c : Value} (hv : VR J v c) {T' : Tr AV} (hput : putT T n o.dst v = some T') :
    DregR E J h lo ops (Nat.lor listed (2 ^ i)) pend T' n (a.put o.dst c).tmps (X.setIfInBounds i true) r' := by
  have hlt : i < ops.size := (Array.getElem?_eq_some_iff.1 ho).1
  have hltX : i < X.size := by rw [hr.sz]; exact hlt
  have hmono : ∀ j, listed.testBit j = true → (Nat.lor listed (2 ^ i)).testBit j = true := fun j hj => by rw [bit_or, hj]; rfl
  have hne : ∀ m' ∈ pend, m'.i ≠ i := by
    intro m' hm' e
    have := (hr.pok.at m' hm').bit
    rw [e, hbit] at this; simp at this
  have hX : ∀ m' ∈ pend, (X.setIfInBounds i true)[m'.i]? = X[m'.i]? := fun m' hm' => by rw [set_get, if_neg]; rintro ⟨e, _⟩; exact hne m' hm' e.symm
  have hn := hr.tr.2.1
  have htmp : ∀ d, o.dst ≠ some d → tmp T d = tmp T' d := by
    intro d hd
    rcases putT_eq hput with ⟨_, rfl⟩ | ⟨t, ht, hltt, rfl⟩
    · rfl
    · rw [tmp_upd (by omega), if_neg]
      rintro rfl
      exact hd ht
  have hold : ∀ m' ∈ pend, (∀ d, sees ops m'.o d = true → tmp T d = tmp T' d) ∧ ∀ d, m'.o.dst = some d → tmp T d = tmp T' d := by
    intro m' hm'
    have hs := (apart_sees (hap m' hm')).1
    refine ⟨fun d hd => htmp d fun e => ?_, fun d hd => htmp d fun e => ?_⟩
    · rw [(hs d e).1] at hd; simp at hd
    · exact (hs d e).2 hd
  obtain ⟨_, _, hsch⟩ := sched_head hr.sched
  refine ⟨by simpa using hr.sz, hsch, ?_, ?_, hr.pok.mono hmono, ?_, hr.lt, ?_, ?_⟩
  · intro j hj hjl
    rw [bit_or] at hj
    simp at hj
    rw [set_get, if_neg (by rintro ⟨e, _⟩; exact hj.2 e)]
    exact hr.un j hj.1 hjl
  · intro j hj
    rw [bit_or] at hj
    simp at hj
    rw [set_get]
    split
    · exact .inl rfl
    · rename_i hc
      rcases hj with hj | hj
      · exact hr.li j hj
      · exact (hc ⟨hj, hltX⟩).elim
  · refine hr.tr.put hput hv fun t ht hd => ?_
    rintro ⟨m, hm, e1, e2⟩
    exact ht ⟨m, hm, by rw [hX m hm]; exact e1, e2⟩
  · intro m hm e hb
    rw [hX m hm] at e
    exact (hr.fact m hm e hb).congr (hold m hm).1 (hold m hm).2
  · intro m hm b hb
    obtain ⟨q1, q2, q3, q4⟩ := hr.name m hm b hb
    rw [hX m hm]
    refine ⟨q1, q2, q3, fun e => ?_⟩
    obtain ⟨q5, oi, q6, q7, q8⟩ := q4 e
    exact ⟨q5, oi, q6, by rw [← wantedA_congr (hold m hm).1]; exact q7, q8.congr (hold m hm).1 (hold m hm).2⟩

end
end Go.Ev
