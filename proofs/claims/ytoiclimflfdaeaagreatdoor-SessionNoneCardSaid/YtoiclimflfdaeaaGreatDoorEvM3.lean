/- The model does what was taken ahead, in whatever order it draws. Condition: the memory is as the evaluator is told. -/
import Derived.Test.YtoiclimflfdaeaaGreatDoorEvM2
set_option linter.unusedSimpArgs false
set_option linter.unusedVariables false
set_option linter.constructorNameAsVariable false
namespace Go.Ev
open Go.RowKit (Below)

theorem makeSlice_fresh {P : Program} {h h' : Hp} {t : TypeId} {l c v : AV} (hm : makeSlice? P h t l c = some (v, h')) :
    ∃ oi, h.new oi = some (h.nx, h') ∧ ∀ J w cl cc, VR J l cl → VR J c cc → ∃ c' obj K, (Instr.makeSlice t cl cc).run P w = .ok c' { w with heap := w.heap.push obj } ∧
      ∀ J', Jext J J' → J' h.nx = some (w.heap.size, K) → VR J' v c' ∧ Sat J' { w with heap := w.heap.push obj } w.heap.size K oi := by
  unfold makeSlice? at hm
  split at hm
  · rename_i elem l0 c0 hu hl0 hc0
    split at hm
    · rename_i size bytes z hsz hby hze
      rw [cond_eq_ite] at hm
      split at hm
      · rename_i hcond
        simp at hcond
        obtain ⟨⟨⟨⟨h1, h2⟩, h3⟩, h4⟩, h5⟩ := hcond
        split at hm
        · rename_i b h2' hn
          simp at hm
          obtain ⟨rfl, rfl⟩ := hm
          obtain ⟨rfl, _, _⟩ := new_eq hn
          refine ⟨_, hn, fun J w cl cc hl hc => ?_⟩
          have hzl : z.cells.toList.length = size := (zcells J z).length.trans h4
          obtain ⟨k1, rfl⟩ := asNat_eq hl hl0
          obtain ⟨k2, rfl⟩ := asNat_eq hc hc0
          obtain ⟨i, hi, hib⟩ := run_bytes w hby
          have hz : z.cells.size = size := by simpa using hzl
          have harr : (Array.range (c0 * size)).map (fun i => z.cells[i % z.cells.size]!) = (repl c0 z.cells.toList).toArray := by
            apply Array.ext'
            rw [← hz, range_map_repl]
          have hmul : i.bytes * c0 ≤ 4096 * 4096 := by rw [hib]; exact Nat.mul_le_mul h3 h2
          have hmul2 : i.bytes * l0 ≤ 4096 * 4096 := by rw [hib]; exact Nat.mul_le_mul h3 (Nat.le_trans h1 h2)
          refine ⟨.slice (some ⟨w.heap.size, 0, none⟩) l0 c0, .cells (repl c0 z.cells.toList).toArray elem, 0, ?_, fun J' hJ hb => ⟨⟨_, _, hb, rfl⟩, ⟨_, repl_VRs (zcells J' z) c0, by simp⟩⟩⟩
          have wl := wrap_small (n := l0) (by omega)
          have wc := wrap_small (n := c0) (by omega)
          have hbc : ¬ ((i.bytes : Int) * c0 > 2 ^ 48) := by
            have h7 : ((i.bytes * c0 : Nat) : Int) ≤ ((4096 * 4096 : Nat) : Int) := Int.ofNat_le.2 hmul
            rw [Int.natCast_mul] at h7
            omega
          have hcond2 : ((decide ((c0 : Int) < 0) || decide ((i.bytes : Int) * c0 > 2 ^ 48)) || decide ((l0 : Int) < 0) || decide ((l0 : Int) > c0)) = false := by
            simp only [Bool.or_eq_false_iff, decide_eq_false_iff_not]
            omega
          simp only [Instr.makeSlice, Sem.run_bind, run_und w hu, Result.andThen_ok, run_asInt, hi, wl, wc, hcond2, Bool.false_eq_true, if_false, Sem.run_ite, Sem.run_pure, run_askRoom, Int.toNat_natCast, run_size w hsz, newRow, run_newObj]
          by_cases hc00 : c0 * size = 0
          · have : c0 = 0 := by
              rcases Nat.mul_eq_zero.1 hc00 with h | h
              · exact h
              · omega
            subst this
            have e0 : Array.range 0 = #[] := by apply Array.ext'; simp
            simp [hc00, repl, e0]
          · simp only [hc00, if_false, run_zero w hze, Result.andThen_ok, harr]
        · simp at hm
      · simp at hm
    · simp at hm
  · simp at hm

theorem fresh_core {E : Env} {h h' : Hp} {ρ : Operand → AV} {o : Oper} {r : AOut} (hf : fresh o = true) (ha : aopA E h ρ o = some (r, h')) :
    ∃ v oi, r = .value v ∧ h.new oi = some (h.nx, h') ∧ ∀ J w ρc, (∀ x ∈ o.op.operands, VR J (ρ x) (ρc x)) → ∃ c obj K, (execOp ρc o).run E.P w = .ok (.value c) { w with heap := w.heap.push obj } ∧
      ∀ J', Jext J J' → J' h.nx = some (w.heap.size, K) → VR J' v c ∧ Sat J' { w with heap := w.heap.push obj } w.heap.size K oi := by
  obtain ⟨dst, op, type, pos, after, guard⟩ := o
  unfold fresh at hf
  unfold aopA at ha
  cases op with
  | alloc e =>
    simp only at ha
    split at ha
    · rename_i z hz
      split at ha
      · rename_i b h2 hn
        simp at ha; obtain ⟨rfl, rfl⟩ := ha
        obtain ⟨rfl, _, _⟩ := new_eq hn
        refine ⟨_, _, rfl, hn, fun J w ρc _ => ⟨.pointer (some ⟨w.heap.size, 0, none⟩), .cells z.cells e, 0, ?_, fun J' _ hb => ⟨⟨_, _, hb, rfl⟩, ⟨z.cells.toList, zcells J' z, by simp⟩⟩⟩⟩
        have : (Instr.alloc e true (.tuple #[])).run E.P w = .ok (.pointer (some ⟨w.heap.size, 0, none⟩)) { w with heap := w.heap.push (.cells z.cells e) } := by
          simp [Instr.alloc, run_zero w hz, newVar, newRow]
        simp [execOp, this]
      · simp at ha
    · simp at ha
  | makeMap t rv =>
    have key : ∀ w : World, (do pure (.map (some (← newObj (.map #[] 0)))) : Sem Value).run E.P w = .ok (.map (some w.heap.size)) { w with heap := w.heap.push (.map #[] 0) } := by intro w; simp
    simp only at ha
    cases rv with
    | none =>
      simp only at ha
      split at ha
      · rename_i b h2 hn
        simp at ha; obtain ⟨rfl, rfl⟩ := ha
        obtain ⟨rfl, _, _⟩ := new_eq hn
        refine ⟨_, _, rfl, hn, fun J w ρc _ => ⟨.map (some w.heap.size), .map #[] 0, 0, ?_, fun J' _ hb => ⟨⟨_, _, hb, rfl⟩, ⟨[], by simp [ER], by simp⟩⟩⟩⟩
        have h4 := key w
        simp at h4
        simp [execOp, Instr.makeMap, h4]
      · simp at ha
    | some x =>
      simp only at ha
      split at ha
      · rename_i kt et n hu hi
        split at ha
        · rename_i b h2 hn
          simp at ha; obtain ⟨rfl, rfl⟩ := ha
          obtain ⟨rfl, _, _⟩ := new_eq hn
          refine ⟨_, _, rfl, hn, fun J w ρc hρ => ⟨.map (some w.heap.size), .map #[] 0, 0, ?_, fun J' _ hb => ⟨⟨_, _, hb, rfl⟩, ⟨[], by simp [ER], by simp⟩⟩⟩⟩
          have hx := hρ x (by simp [Op.operands])
          unfold asInt? at hi
          split at hi
          · rename_i k m e
            rw [e] at hx; simp [VR] at hx
            have h4 := key w
            simp at h4
            simp [execOp, Instr.makeMap, run_und w hu, hx, asInt, asIntOf, h4]
          · simp at hi
        · simp at ha
      · simp at ha
  | makeSlice t l c =>
    simp only at ha
    split at ha
    · rename_i v h2 hn
      simp at ha; obtain ⟨rfl, rfl⟩ := ha
      obtain ⟨oi, h1, h3⟩ := makeSlice_fresh hn
      refine ⟨v, oi, rfl, h1, fun J w ρc hρ => ?_⟩
      obtain ⟨c', obj, K, h4, h5⟩ := h3 J w _ _ (hρ l (by simp [Op.operands])) (hρ c (by simp [Op.operands]))
      exact ⟨c', obj, K, by simp [execOp, h4], h5⟩
    · simp at ha
  | _ => simp at hf

section
variable {E : Env} {w0 : World} {J : Jn} {h : Hp} {w : World} {lo : Nat} {ops : Array Oper} {listed : Nat} {pend : List Pend} {T : Tr AV} {n : Nat} {a : Act} {X : Array Bool} {rest : List Nat}

theorem set_get {X : Array Bool} {i j : Nat} : (X.setIfInBounds i true)[j]? = if i = j ∧ i < X.size then some true else X[j]? := by
  rw [Array.getElem?_setIfInBounds]
  by_cases e : i = j
  · subst e
    by_cases hl : i < X.size
    · simp [hl]
    · simp [hl]
  · simp [e]

/-- What an operation that comes up looks at is known. -/
theorem DregR.seen (hr : DregR E J h lo ops listed pend T n a.tmps X rest) {i : Nat} {r' : List Nat} (hrest : rest = i :: r') {o : Oper} (ho : ops[i]? = some o)
    (hs : ∀ m ∈ pend, X[m.i]? = some false → ∀ d, m.o.dst = some d → sees ops o d = true → behind o m.i = true) : Seen J T a.tmps ops o := by
  subst hrest
  intro d hd
  refine hr.tr.2.2 d ?_
  rintro ⟨m, hm, hx, hdst⟩
  obtain ⟨e, he, hb, hon⟩ := behind_iff.1 (hs m hm hx d hdst hd)
  obtain ⟨_, ⟨o', ho', hall⟩, _⟩ := sched_head hr.sched
  rw [ho] at ho'
  simp at ho'
  subst ho'
  have := hall e he hb
  rw [hon, hx] at this
  simp at this

/-- The model does what was taken ahead. -/
theorem DregR.stutter (hE : E.Ok w0) (hm : E.more = false) (hg : GlobOk E J) (hh : HR w0 J h w) {i : Nat} {r' : List Nat} (hr : DregR E J h lo ops listed pend T n a.tmps X (i :: r')) (hl : Looks E ops h T X pend)
    (hbit : listed.testBit i = true) (b : Frame) (k : List Item) (cs : List Frame) :
    ∃ J' w' c, step E.P (lone (b.at a (.inRegion ops (i :: r') :: k)) cs w) = .next (lone (b.at (a.put ((ops[i]?).bind (·.dst)) c) (.inRegion ops r' :: k)) cs w') ∧
      Jext J J' ∧ (∀ x, x < lo → J' x = J x) ∧ HR w0 J' h w' ∧ DregR E J' h lo ops listed pend T n (a.put ((ops[i]?).bind (·.dst)) c).tmps (X.setIfInBounds i true) r' := by
  obtain ⟨hX, ⟨o, ho, hall⟩, hsch⟩ := sched_head hr.sched
  have hlt : i < ops.size := (Array.getElem?_eq_some_iff.1 ho).1
  have hltX : i < X.size := by rw [hr.sz]; exact hlt
  have hXi : X[i]? = some false := by
    rw [Array.getD_eq_getD_getElem?] at hX
    cases e : X[i]? with
    | none => rw [e] at hX; simp at hX
    | some b => rw [e] at hX; simp at hX; rw [hX]
  obtain ⟨m, hm1, hmi⟩ : ∃ m ∈ pend, m.i = i := by
    rcases hr.li i hbit with e | e
    · rw [hXi] at e; simp at e
    · exact e
  have hat := hr.pok.at m hm1
  have hmo : m.o = o := by
    have := hat.op
    rw [hmi, ho] at this
    simpa using this.symm
  have hmX : X[m.i]? = some false := by rw [hmi]; exact hXi
  have hseen : Seen J T a.tmps ops m.o := hr.seen rfl (by rw [hmo]; exact ho) fun m' hm' _ d hd hs => hr.pok.sees m hm1 m' hm' d hd hs
  have hops := eval_sound hg hseen
  have hwant := wanted_sound hseen
  rw [hmo] at hseen hops hwant
  have hdst : (ops[i]?).bind (·.dst) = o.dst := by rw [ho]; rfl
  -- what is left of the relation
  have finish : ∀ J' w' c, Jext J J' → (∀ x, x < lo → J' x = J x) → HR w0 J' h w' → (∀ d, o.dst = some d → VR J' (tmp T d) c) →
      (∀ m' ∈ pend, ∀ b, m'.b = some b → (m' = m → ∃ x, J' b = some x) ∧ (m' ≠ m → J b = none → J' b = none)) →
      DregR E J' h lo ops listed pend T n (a.put o.dst c).tmps (X.setIfInBounds i true) r' := by
    intro J' w' c hj hlo hh' hv hnames
    have hother : ∀ m' ∈ pend, (X.setIfInBounds i true)[m'.i]? = some false → X[m'.i]? = some false ∧ m' ≠ m := by
      intro m' hm' e
      rw [set_get] at e
      split at e
      · simp at e
      · rename_i hne
        refine ⟨e, ?_⟩
        rintro rfl
        exact hne ⟨hmi.symm, hltX⟩
    refine ⟨by simpa using hr.sz, hsch, ?_, ?_, hr.pok, ?_, hr.lt, ?_, ?_⟩
    · intro j hj hjl
      rw [set_get, if_neg (by rintro ⟨rfl, _⟩; rw [hbit] at hj; simp at hj)]
      exact hr.un j hj hjl
    · intro j hj
      rw [set_get]
      split
      · exact .inl rfl
      · exact hr.li j hj
    · obtain ⟨t1, t2, t3⟩ := hr.tr
      refine ⟨by unfold Act.put; split <;> simp [t1], t2, fun t ht => ?_⟩
      by_cases hd : o.dst = some t
      · rw [hd]
        simp only [Act.put]
        by_cases hlt' : t < a.tmps.size
        · simpa [Array.getD_eq_getD_getElem?, Array.getElem?_setIfInBounds, hlt'] using hv t hd
        · by_cases hw : Wait X pend t
          · exact (hlt' (by rw [t1]; exact hr.lt m hm1 t (by rw [hmo]; exact hd))).elim
          · have := (t3 t hw).mono hj
            simpa [Array.getD_eq_getD_getElem?, Array.getElem?_setIfInBounds, hlt'] using this
      · have hnw : ¬ Wait X pend t := by
          rintro ⟨m', hm', hx', hd'⟩
          refine ht ⟨m', hm', ?_, hd'⟩
          rw [set_get, if_neg]
          · exact hx'
          · rintro ⟨e, _⟩
            have := hr.pok.idx m' hm' m hm1 (by rw [hmi, e])
            subst this
            rw [hmo] at hd'
            exact hd hd'
        have := (t3 t hnw).mono hj
        cases hdd : o.dst with
        | none => simpa [Act.put] using this
        | some d =>
          have hne : d ≠ t := by rintro rfl; exact hd hdd
          simpa [Act.put, Array.getD_eq_getD_getElem?, Array.getElem?_setIfInBounds, hne] using this
    · intro m' hm' e hb'
      exact hr.fact m' hm' (hother m' hm' e).1 hb'
    · intro m' hm' b' hb'
      obtain ⟨n1, n2, n3, n4⟩ := hr.name m' hm' b' hb'
      refine ⟨n1, n2, fun e => ?_, fun e => ?_⟩
      · by_cases em : m' = m
        · exact (hnames m' hm' b' hb').1 em
        · rw [set_get] at e
          split at e
          · rename_i hc
            exact (em (hr.pok.idx m' hm' m hm1 (by rw [hmi, hc.1]))).elim
          · obtain ⟨x, hx⟩ := n3 e
            exact ⟨x, hj _ _ hx⟩
      · obtain ⟨e1, e2⟩ := hother m' hm' e
        obtain ⟨q1, q2⟩ := n4 e1
        exact ⟨(hnames m' hm' b' hb').2 e2 q1, q2⟩
  rw [hdst]
  cases hb : m.b with
  | none =>
    have nameNone : ∀ m' ∈ pend, ∀ b, m'.b = some b → (m' = m → ∃ x, J b = some x) ∧ (m' ≠ m → J b = none → J b = none) := by
      intro m' hm' b hb'
      refine ⟨fun e => ?_, fun _ e => e⟩
      subst e; rw [hb] at hb'; simp at hb'
    have hfact := hr.fact m hm1 hmX hb
    rcases hfact with ⟨f1, f2⟩ | ⟨f1, f2, f3⟩
    · rw [hmo] at f1 f2
      refine ⟨J, w, undef, ?_, Jext.refl J, fun _ _ => rfl, hh, finish J w undef (Jext.refl J) (fun _ _ => rfl) hh (fun d hd => by rw [f2 d hd]; exact VR.vv _) nameNone⟩
      have := step_op_skip (P := E.P) (b := b) (a := a) (k := k) (cs := cs) (w := w) (ops := ops) (i := i) (rest := r') (by rw [ho]; simp; rw [hwant]; exact f1)
      rw [hdst] at this
      exact this
    · have hval : Val E h T m := by
        cases e : looks m.o with
        | false => exact f3 e h
        | true => exact hl m hm1 hmX hb f1 e
      obtain ⟨v, ha, hv⟩ := hval
      rw [hmo] at ha f1 hv
      obtain ⟨J', w', nx, j1, j2, ⟨c, j3, rfl⟩, j4⟩ := aopA_sound hE hm hg hh hops ha
      have hJJ : J' = J := by
        funext x
        by_cases e : x = h.nx
        · subst e; rw [j2.fr _ (Nat.le_refl _), hh.fr _ (Nat.le_refl _)]
        · exact j1.2 x e
      subst hJJ
      refine ⟨J', w', c, ?_, Jext.refl J', fun _ _ => rfl, j2, finish J' w' c (Jext.refl J') (fun _ _ => rfl) j2 (fun d hd => hv d hd _ _ j3) nameNone⟩
      refine step_lone_go ?_
      rw [stepG_op ho (by rw [hwant]; exact f1)]
      have hfin := Frame.finish_at b a ops i r' k c
      rw [hdst] at hfin
      rw [← hfin]
      simp [stepG.apply, j4]
  | some bn =>
    obtain ⟨n1, n2, n3, n4⟩ := hr.name m hm1 bn hb
    obtain ⟨hJb, oi, hfind, f1, ff⟩ := n4 hmX
    obtain ⟨c, obj, K, hrun, hrest⟩ := ff J w a.eval (by rw [hmo]; exact hops)
    have hext : Jext J (Jset J bn (w.heap.size, K)) := Jset.ext hJb
    obtain ⟨hv, hs⟩ := hrest _ hext (by simp [Jset])
    obtain ⟨hh', _⟩ := hh.realize hfind hJb obj K hs
    rw [hmo] at f1 hrun hv
    have hJne : ∀ x, x ≠ bn → Jset J bn (w.heap.size, K) x = J x := fun x e => by simp [Jset, e]
    refine ⟨Jset J bn (w.heap.size, K), _, c, ?_, hext, fun x hx => hJne x (by omega), hh', finish _ _ c hext (fun x hx => hJne x (by omega)) hh' hv ?_⟩
    · refine step_lone_go ?_
      rw [stepG_op ho (by rw [hwant]; exact f1)]
      have hfin := Frame.finish_at b a ops i r' k c
      rw [hdst] at hfin
      rw [← hfin]
      simp [stepG.apply, hrun]
    · intro m' hm' b' hb'
      refine ⟨fun e => ?_, fun e h0 => ?_⟩
      · subst e; rw [hb] at hb'; simp at hb'; subst hb'; exact ⟨(w.heap.size, K), by simp [Jset]⟩
      · rw [hJne]
        · exact h0
        · rintro rfl
          exact e (hr.pok.names m' hm' m hm1 _ hb' hb)

/-- Nothing is left to wait for when nothing may come up. -/
theorem DregR.all_done (hr : DregR E J h lo ops listed pend T n a.tmps X []) : ∀ m ∈ pend, X[m.i]? = some true := by
  have hnone : Region.ready .any ops X = [] := hr.sched
  have key : ∀ l pre, pend = pre ++ l → PendOk ops listed l → (∀ m ∈ pre, ∀ m' ∈ l, behind m'.o m.i = false) → ∀ m ∈ l, X[m.i]? = some true := by
    intro l
    induction l with
    | nil => intro pre _ _ _ m hm; simp at hm
    | cons x l ih =>
      intro pre he hp hpre
      have hl : ∀ m ∈ l, X[m.i]? = some true := ih (pre ++ [x]) (by simp [he]) hp.2.2 (by
        intro m hm m' hm'
        rcases List.mem_append.1 hm with hm | hm
        · exact hpre m hm m' (by simp [hm'])
        · simp at hm; subst hm; exact (hp.2.1 m' hm').2.1)
      have hx : X[x.i]? = some true := by
        have hat := hp.1
        have hlt : x.i < X.size := by rw [hr.sz]; exact (Array.getElem?_eq_some_iff.1 hat.op).1
        cases hX : X[x.i]? with
        | none => rw [Array.getElem?_eq_none_iff] at hX; omega
        | some bv =>
          cases bv with
          | true => rfl
          | false =>
            have hmem : x.i ∈ Region.ready .any ops X := by
              rw [mem_ready]
              refine ⟨by rw [Array.getD_eq_getD_getElem?, hX]; rfl, x.o, hat.op, fun e hee hb => ?_⟩
              have hbit := ready_iff.1 hat.rdy e hee hb
              have : X[e.on]? = some true := by
                rcases hr.li _ hbit with h1 | ⟨m', hm', hi⟩
                · exact h1
                · rw [he] at hm'
                  rcases List.mem_append.1 hm' with hm' | hm'
                  · have := hpre m' hm' x (by simp)
                    rw [behind_iff.2 ⟨e, hee, hb, hi.symm⟩] at this
                    simp at this
                  · rcases List.mem_cons.1 hm' with rfl | hm'
                    · have := hat.notself
                      rw [behind_iff.2 ⟨e, hee, hb, hi.symm⟩] at this
                      simp at this
                    · rw [← hi]; exact hl m' hm'
              rw [Array.getD_eq_getD_getElem?, this]; rfl
            rw [hnone] at hmem
            simp at hmem
      intro m hm
      rcases List.mem_cons.1 hm with rfl | hm
      · exact hx
      · exact hl m hm
  exact key pend [] rfl hr.pok (by simp)

/-- Something may come up behind what was taken ahead: then the model is not at the end. -/
theorem DregR.has_more (hr : DregR E J h lo ops listed pend T n a.tmps X []) {i : Nat} {o : Oper} (ho : ops[i]? = some o) (hb : listed.testBit i = false) (hrd : ready o listed = true) : False := by
  have hnone : Region.ready .any ops X = [] := hr.sched
  have hdone := hr.all_done
  have hlt : i < ops.size := (Array.getElem?_eq_some_iff.1 ho).1
  have hmem : i ∈ Region.ready .any ops X := by
    rw [mem_ready]
    refine ⟨by rw [Array.getD_eq_getD_getElem?, hr.un i hb hlt]; rfl, o, ho, fun e he hbd => ?_⟩
    have hbit := ready_iff.1 hrd e he hbd
    have : X[e.on]? = some true := by
      rcases hr.li _ hbit with h1 | ⟨m', hm', hi⟩
      · exact h1
      · rw [← hi]; exact hdone m' hm'
    rw [Array.getD_eq_getD_getElem?, this]; rfl
  rw [hnone] at hmem
  simp at hmem

/-- The model catches up with what was taken ahead. -/
theorem DregR.reach (hE : E.Ok w0) (hm : E.more = false) (b : Frame) (k : List Item) (cs : List Frame) : ∀ (rest : List Nat) (J : Jn) (w : World) (a : Act) (X : Array Bool), GlobOk E J → HR w0 J h w →
    DregR E J h lo ops listed pend T n a.tmps X rest → Looks E ops h T X pend →
    ∃ J' w' a' X' rest', Steps E.P (lone (b.at a (.inRegion ops rest :: k)) cs w) (lone (b.at a' (.inRegion ops rest' :: k)) cs w') ∧ a'.defers = a.defers ∧ Jext J J' ∧ (∀ x, x < lo → J' x = J x) ∧ HR w0 J' h w' ∧
      DregR E J' h lo ops listed pend T n a'.tmps X' rest' ∧ Looks E ops h T X' pend ∧ (rest' = [] ∨ ∃ i r', rest' = i :: r' ∧ listed.testBit i = false) := by
  intro rest
  induction rest with
  | nil => intro J w a X hg hh hr hl; exact ⟨J, w, a, X, [], .refl _ _, rfl, Jext.refl J, fun _ _ => rfl, hh, hr, hl, .inl rfl⟩
  | cons i r' ih =>
    intro J w a X hg hh hr hl
    by_cases hb : listed.testBit i = true
    · obtain ⟨J1, w1, c, s1, j1, l1, h1, r1⟩ := hr.stutter hE hm hg hh hl hb b k cs
      have hl1 : Looks E ops h T (X.setIfInBounds i true) pend := by
        intro m hm' e
        refine hl m hm' ?_
        rw [set_get] at e
        split at e
        · simp at e
        · exact e
      obtain ⟨J2, w2, a2, X2, rest2, s2, d2, j2, l2, h2, r2, hl2, e2⟩ := ih J1 w1 _ _ (hg.mono j1) h1 r1 hl1
      exact ⟨J2, w2, a2, X2, rest2, .head s1 s2, d2.trans (Act.put_defers _ _ _), j1.trans j2, fun x hx => (l2 x hx).trans (l1 x hx), h2, r2, hl2, e2⟩
    · exact ⟨J, w, a, X, i :: r', .refl _ _, rfl, Jext.refl J, fun _ _ => rfl, hh, hr, hl, .inr ⟨i, r', rfl, by simpa using hb⟩⟩

/-- Something more is taken ahead. -/
theorem DregR.more (hr : DregR E J h lo ops listed pend T n a.tmps X rest) {h' : Hp} {T' : Tr AV} {m : Pend} {v : AV} (hop : ops[m.i]? = some m.o) (hbit : listed.testBit m.i = false) (hrd : ready m.o listed = true)
    (hself : selfOk ops m.o = true) (hap : ∀ m' ∈ pend, apartA ops m' m.o = true) (hput : putT T n m.o.dst v = some T')
    (hfact : m.b = none → Fact E ops T' m)
    (hkeep : ∀ b oi, h.H.find b = some (true, oi) → h'.H.find b = some (true, oi)) (hnx : h.nx ≤ h'.nx)
    (hname : ∀ b, m.b = some b → b = h.nx ∧ h.nx < h'.nx ∧ lo ≤ h.nx ∧ J b = none ∧ ∃ oi, h'.H.find b = some (true, oi) ∧ wantedA m.o ops T' = true ∧ FreshFact E T' m b oi) :
    DregR E J h' lo ops (Nat.lor listed (2 ^ m.i)) (m :: pend) T' n a.tmps X rest := by
  have hlt : m.i < ops.size := (Array.getElem?_eq_some_iff.1 hop).1
  have hX : X[m.i]? = some false := hr.un _ hbit hlt
  have hmono : ∀ i, listed.testBit i = true → (Nat.lor listed (2 ^ m.i)).testBit i = true := fun i hi => by rw [bit_or, hi]; rfl
  have htmp : ∀ d, m.o.dst ≠ some d → tmp T d = tmp T' d := by
    intro d hd
    rcases putT_eq hput with ⟨_, rfl⟩ | ⟨t, ht, hltt, rfl⟩
    · rfl
    · have := hr.tr.2.1
      rw [tmp_upd (by omega), if_neg]
      rintro rfl
      exact hd ht
  have hold : ∀ m' ∈ pend, (∀ d, sees ops m'.o d = true → tmp T d = tmp T' d) ∧ ∀ d, m'.o.dst = some d → tmp T d = tmp T' d := by
    intro m' hm'
    have hs := (apart_sees (hap m' hm')).1
    refine ⟨fun d hd => htmp d fun e => ?_, fun d hd => htmp d fun e => ?_⟩
    · rw [(hs d e).1] at hd; simp at hd
    · exact (hs d e).2 hd
  have hne : ∀ m' ∈ pend, m'.i ≠ m.i := by
    intro m' hm' e
    have := (hr.pok.at m' hm').bit
    rw [e, hbit] at this; simp at this
  refine ⟨hr.sz, hr.sched, ?_, ?_, ⟨⟨hop, by rw [bit_or]; simp, ready_mono hmono hrd, ?_, hself⟩, fun m' hm' => ⟨hne m' hm', ?_, hap m' hm', ?_⟩, hr.pok.mono hmono⟩, ?_, ?_, ?_, ?_⟩
  · intro i hi hil
    rw [bit_or] at hi
    simp at hi
    exact hr.un i hi.1 hil
  · intro i hi
    rw [bit_or] at hi
    simp at hi
    rcases hi with hi | hi
    · rcases hr.li i hi with e | ⟨m', hm', e⟩
      · exact .inl e
      · exact .inr ⟨m', by simp [hm'], e⟩
    · exact .inr ⟨m, by simp, hi⟩
  · cases e : behind m.o m.i with
    | false => rfl
    | true =>
      obtain ⟨ed, h1, h2, h3⟩ := behind_iff.1 e
      have := ready_iff.1 hrd ed h1 h2
      rw [h3, hbit] at this; simp at this
  · cases e : behind m'.o m.i with
    | false => rfl
    | true =>
      obtain ⟨ed, h1, h2, h3⟩ := behind_iff.1 e
      have := ready_iff.1 (hr.pok.at m' hm').rdy ed h1 h2
      rw [h3, hbit] at this; simp at this
  · intro b hb hb'
    have := hr.name m' hm' b hb'
    have := hname b hb
    omega
  · obtain ⟨t1, t2, t3⟩ := hr.tr
    refine ⟨t1, t2, fun t ht => ?_⟩
    have hd : m.o.dst ≠ some t := fun e => ht ⟨m, by simp, hX, e⟩
    rw [← htmp t hd]
    exact t3 t fun ⟨m', hm', e1, e2⟩ => ht ⟨m', by simp [hm'], e1, e2⟩
  · intro m' hm' d hd
    rcases List.mem_cons.1 hm' with rfl | hm2
    · rcases putT_eq hput with ⟨e, _⟩ | ⟨t, ht, hltt, _⟩
      · rw [hd] at e; simp at e
      · rw [hd] at ht; simp at ht; subst ht; exact hltt
    · exact hr.lt m' hm2 d hd
  · intro m' hm' e hb
    rcases List.mem_cons.1 hm' with rfl | hm2
    · exact hfact hb
    · exact (hr.fact m' hm2 e hb).congr (hold m' hm2).1 (hold m' hm2).2
  · intro m' hm' b hb
    rcases List.mem_cons.1 hm' with rfl | hm2
    · obtain ⟨q1, q2, q3, q4, q5⟩ := hname b hb
      refine ⟨by omega, by omega, fun e => ?_, fun _ => ⟨q4, q5⟩⟩
      rw [hX] at e; simp at e
    · obtain ⟨q1, q2, q3, q4⟩ := hr.name m' hm2 b hb
      refine ⟨q1, by omega, q3, fun e => ?_⟩
      obtain ⟨q5, oi, q6, q7, q8⟩ := q4 e
      exact ⟨q5, oi, hkeep _ _ q6, by rw [← wantedA_congr (hold m' hm2).1]; exact q7, q8.congr (hold m' hm2).1 (hold m' hm2).2⟩

end
end Go.Ev
