/- Operations of the evaluator come to what the model comes to (part 9). Condition: the memory is as the evaluator is told. -/
import Derived.Test.YtoiclimflfdaeaaGreatDoorEvOps8
set_option linter.unusedSimpArgs false
set_option linter.unusedVariables false
set_option linter.constructorNameAsVariable false
namespace Go.Ev
open Go.RowKit (Below)

section
variable {E : Env} {w0 : World} {J : Jn} {h h' : Hp} {w : World}

theorem beq_addr (B o o' : Nat) : ((⟨B, o, none⟩ : Addr) == ⟨B, o', none⟩) = o.beq o' := by
  by_cases h : o = o'
  · subst h; simp
  · rw [beq_f h]; simp [h]

/-- Equality of two values one of which bears an address. -/
theorem aeq_run {P : Program} {t : TypeId} {x y : AV} {cx cy : Value} {b : Bool} (hx : VR J x cx) (hy : VR J y cy) (ha : aeq? P t x y = some b) (ox oy : Operand) (op : BinOp) :
    (Op.equal t cx cy).run P w = .ok b w ∧ (eqGuard op t ox oy cx cy).run P w = .ok () w ∧ (∀ k n, cx ≠ .int k n) ∧ (∀ k n, cx ≠ .float k n) ∧ (∀ k n m, cx ≠ .complex k n m) ∧ (∀ s, cx ≠ .string s) := by
  obtain ⟨d, hd⟩ : ∃ d, Op.equal t cx cy = Op.equalIn (d + 1) t cx cy := ⟨9999, rfl⟩
  unfold aeq? at ha
  split at ha
  · rename_i e hu
    split at ha
    · obtain ⟨B, K, hJ, rfl⟩ := hx
      simp [VR] at hy; subst hy
      simp at ha; subst ha
      refine ⟨?_, ?_, by simp, by simp, by simp, by simp⟩
      · simp [hd, Op.equalIn, run_und w hu]
      · cases op <;> simp [eqGuard]
    · obtain ⟨B, K, hJ, rfl⟩ := hy
      simp [VR] at hx; subst hx
      simp at ha; subst ha
      refine ⟨?_, ?_, by simp, by simp, by simp, by simp⟩
      · simp [hd, Op.equalIn, run_und w hu]
      · cases op <;> simp [eqGuard]
    · rename_i b1 o1 b2 o2
      split at ha
      · simp at ha
      · rename_i n hne hsz
        rw [cond_eq_ite] at ha
        split at ha
        · rename_i hb
          have hb := of_beq hb
          subst hb
          obtain ⟨B, K, hJ, rfl⟩ := hx
          obtain ⟨B', K', hJ', rfl⟩ := hy
          rw [hJ] at hJ'; simp at hJ'; obtain ⟨rfl, rfl⟩ := hJ'
          have hn : ¬ n = 0 := fun e => by subst e; first | exact hne rfl | exact hne hsz
          have ha := Option.some.inj ha
          refine ⟨?_, ?_, by simp, by simp, by simp, by simp⟩
          · simp [hd, Op.equalIn, run_und w hu, run_size w hsz, hn, sameAddr]
            rw [← ha]
            by_cases e : o1 = o2
            · simp [e]
            · rw [beq_f e]; simp [e]
          · cases op <;> simp [eqGuard]
        · simp at ha
      · simp at ha
    · simp at ha
  · rename_i hu
    split at ha
    · obtain ⟨B, K, hJ, rfl⟩ := hx
      simp [VR] at hy; subst hy
      simp at ha; subst ha
      exact ⟨by simp [hd, Op.equalIn, run_und w hu], by cases op <;> simp [eqGuard], by simp, by simp, by simp, by simp⟩
    · obtain ⟨B, K, hJ, rfl⟩ := hx
      simp [VR] at hy; subst hy
      simp at ha; subst ha
      exact ⟨by simp [hd, Op.equalIn, run_und w hu], by cases op <;> simp [eqGuard], by simp, by simp, by simp, by simp⟩
    · obtain ⟨B, K, o, c, hJ, rfl⟩ := hx
      simp [VR] at hy; subst hy
      simp at ha; subst ha
      exact ⟨by simp [hd, Op.equalIn, run_und w hu], by cases op <;> simp [eqGuard], by simp, by simp, by simp, by simp⟩
    · obtain ⟨B, K, o, c, hJ, rfl⟩ := hy
      simp [VR] at hx; subst hx
      simp at ha; subst ha
      exact ⟨by simp [hd, Op.equalIn, run_und w hu], by cases op <;> simp [eqGuard], by simp, by simp, by simp, by simp⟩
    · obtain ⟨B, K, hJ, rfl⟩ := hy
      simp [VR] at hx; subst hx
      simp at ha; subst ha
      exact ⟨by simp [hd, Op.equalIn, run_und w hu], by cases op <;> simp [eqGuard], by simp, by simp, by simp, by simp⟩
    · obtain ⟨B, K, hJ, rfl⟩ := hy
      simp [VR] at hx; subst hx
      simp at ha; subst ha
      exact ⟨by simp [hd, Op.equalIn, run_und w hu], by cases op <;> simp [eqGuard], by simp, by simp, by simp, by simp⟩
    · simp at ha
  · rename_i hu
    split at ha
    · obtain ⟨B, K, hJ, rfl⟩ := hx
      simp [VR] at hy; subst hy
      simp at ha; subst ha
      exact ⟨by simp [hd, Op.equalIn, run_und w hu], by cases op <;> simp [eqGuard], by simp, by simp, by simp, by simp⟩
    · obtain ⟨B, K, hJ, rfl⟩ := hy
      simp [VR] at hx; subst hx
      simp at ha; subst ha
      exact ⟨by simp [hd, Op.equalIn, run_und w hu], by cases op <;> simp [eqGuard], by simp, by simp, by simp, by simp⟩
    · simp at ha
  · rename_i hu
    split at ha
    · obtain ⟨f', c', _, _, rfl⟩ := hx
      simp [VR] at hy; subst hy
      simp at ha; subst ha
      exact ⟨by simp [hd, Op.equalIn, run_und w hu], by cases op <;> simp [eqGuard], by simp, by simp, by simp, by simp⟩
    · obtain ⟨f', c', _, _, rfl⟩ := hy
      simp [VR] at hx; subst hx
      simp at ha; subst ha
      exact ⟨by simp [hd, Op.equalIn, run_und w hu], by cases op <;> simp [eqGuard], by simp, by simp, by simp, by simp⟩
    · simp at ha
  · simp at ha

theorem bytes_sound : ∀ {l : List AV} {cs : List Value} {acc s : ByteArray}, VRs J l cs → bytes? l acc = some s → ∃ ns : List Int, cs = ns.map (Value.int .u8) ∧ s = ns.foldl (fun r n => r.push (UInt8.ofNat n.toNat)) acc
  | [], _, acc, s, hv, h => by simp [VRs] at hv; subst hv; simp [bytes?] at h; exact ⟨[], rfl, h.symm⟩
  | x :: l, _, acc, s, ⟨y, m, h1, h2, rfl⟩, h => by
    unfold bytes? at h
    split at h
    · rename_i e; simp at e
    · rename_i acc' n l' e
      simp at e
      obtain ⟨rfl, rfl⟩ := e
      simp [VR] at h1; subst h1
      obtain ⟨ns, r1, r2⟩ := bytes_sound h2 h
      exact ⟨n :: ns, by simp [r1], by simp [r2]⟩
    · simp at h

theorem bytesString_run {P : Program} (hr : HR w0 J h w) {s d : TypeId} {x v : AV} {cx : Value} (hx : VR J x cx) (hm : bytesString? P h s d x = some v) : ∃ c, VR J v c ∧ (convert s d cx).run P w = .ok c w := by
  unfold bytesString? at hm
  split at hm
  · rename_i e hs hd
    split at hm
    · rename_i he hsn
      have := slice_none hx hsn; subst this
      simp at hm; subst hm
      refine ⟨_, VR.vv _, ?_⟩
      rw [run_convert_bytes_string w s d e none 0 0 hs he hd]
      simp [Conv.bytesToString]
    · rename_i sv he hss
      obtain ⟨B, K, hJ, rfl, _⟩ := slice_some hx hss
      split at hm
      · rename_i l hc
        split at hm
        · rename_i r hsg
          split at hm
          · rename_i str hb
            simp at hm; subst hm
            obtain ⟨B', K', l', tl, e', fz, hJ', hv, hw⟩ := hr.cells hc
            rw [hJ] at hJ'; simp at hJ'; obtain ⟨rfl, rfl⟩ := hJ'
            have hbd := (seg_eq hsg).2
            rw [← hv.length] at hbd
            obtain ⟨ns, r1, r2⟩ := bytes_sound (hv.seg hsg) hb
            refine ⟨_, VR.vv _, ?_⟩
            rw [run_convert_bytes_string w s d e _ _ _ hs he hd, run_bytesToString w _ _ _ ns (by rw [run_loads hw hbd, r1]), r2]
          · simp at hm
        · simp at hm
      · simp at hm
    · simp at hm
  · simp at hm

theorem mapAV_rel {ρ : Operand → AV} {ρc : Operand → Value} : ∀ {l : List Operand}, (∀ x ∈ l, VR J (ρ x) (ρc x)) → VRs J (mapAV ρ l) (l.map ρc)
  | [], _ => by simp [mapAV, VRs]
  | x :: l, h => ⟨_, _, h x (by simp), mapAV_rel fun y hy => h y (by simp [hy]), rfl⟩

theorem pures_mem : ∀ {l : List Operand} {ρ : Operand → AV} {vs : List Value}, AV.pures? (mapAV ρ l) = some vs → ∀ x ∈ l, ∃ v, (ρ x).pure? = some v
  | [], _, _, _, x, hx => by simp at hx
  | y :: l, ρ, vs, h, x, hx => by
    simp only [mapAV, AV.pures?] at h
    split at h
    · rename_i v hv
      split at h
      · rename_i vl hl
        simp at hx
        rcases hx with rfl | hx
        · exact ⟨v, hv⟩
        · exact pures_mem hl x hx
      · simp at h
    · simp at h

theorem pureOp_sound {P : Program} {ρ : Operand → AV} {ρc : Operand → Value} {o : Oper} {r : AOut} (hρ : ∀ x ∈ o.op.operands, VR J (ρ x) (ρc x)) (hs : ∀ cs b, o.op ≠ .select cs b) (hp : pureOp P ρ o = some r) :
    ∃ v, r = .value (.v v) ∧ (execOp ρc o).run P w = .ok (.value v) w := by
  unfold pureOp at hp
  split at hp
  · rename_i vs hvs
    split at hp
    · rename_i v hv
      simp at hp; subst hp
      refine ⟨v, rfl, ?_⟩
      have hcongr : execOp ρc o = execOp (fun x => ((ρ x).pure?).getD (.tuple #[])) o := by
        refine execOp_congr o hs fun x hx => ?_
        obtain ⟨u, hu⟩ := pures_mem hvs x (by simpa using hx)
        have := pure_sound _ hu (hρ x hx)
        simp [hu, this]
      rw [hcongr]
      exact pureRun_sound _ hv w
    · simp at hp
  · simp at hp

theorem pairs_rel {ρ : Operand → AV} {ρc : Operand → Value} : ∀ {l : List (Nat × Operand)}, (∀ p ∈ l, VR J (ρ p.2) (ρc p.2)) → PR J (pairs ρ l) (l.map fun p => (p.1, ρc p.2))
  | [], _ => by simp [pairs, PR]
  | (i, x) :: l, h => ⟨_, _, h (i, x) (by simp), pairs_rel fun y hy => h y (by simp [hy]), rfl⟩

theorem opt_rel {ρ : Operand → AV} {ρc : Operand → Value} {x : Option Operand} (h : ∀ y, x = some y → VR J (ρ y) (ρc y)) : OptR J (optAV ρ x) (x.map ρc) := by
  cases x with
  | none => exact .inl ⟨rfl, rfl⟩
  | some y => exact .inr ⟨_, _, rfl, rfl, h y rfl⟩

theorem len_run {P : Program} (hr : HR w0 J h w) {ats : Array TypeId} (ty : TypeId) {args : List AV} {cargs : List Value} {n : Nat} (ha : VRs J args cargs) (hl : len? P h ats args = some n) :
    (Builtin.len_ ats ty cargs.toArray).run P w = .ok (.int .i64 n) w := by
  unfold len? at hl
  split at hl
  · rename_i t x h0
    obtain ⟨cx, m, hx, hnil, rfl⟩ := ha
    simp [VRs] at hnil; subst hnil
    split at hl
    · rename_i e hu
      split at hl
      · obtain ⟨B, K, o, c, hJ, rfl⟩ := hx
        simp at hl; subst hl
        simp [Builtin.len_, h0, run_und w hu, goInt]
      · split at hl
        · rename_i hs
          have := slice_none hx hs; subst this
          simp at hl; subst hl
          simp [Builtin.len_, h0, run_und w hu, goInt]
        · rename_i s hs
          obtain ⟨B, K, hJ, rfl, _⟩ := slice_some hx hs
          simp at hl; subst hl
          simp [Builtin.len_, h0, run_und w hu, goInt]
        · simp at hl
    · rename_i k e hu
      split at hl
      · rename_i es c hm
        obtain ⟨cs, hes, hc⟩ := mapOf_rel hr hx hm
        simp at hl; subst hl
        rcases hc with ⟨rfl, rfl⟩ | ⟨B, rfl, hw⟩
        · have := hes.length
          have : es = [] := List.eq_nil_of_length_eq_zero (by simpa using this.symm)
          subst this
          simp [Builtin.len_, h0, run_und w hu, goInt]
        · simp [Builtin.len_, h0, run_und w hu, goInt, MapKept.run_getObj_map hw, hes.length]
      · simp at hl
    · simp at hl
  · simp at hl

theorem clear_sound {P : Program} (hr : HR w0 J h w) {ats : Array TypeId} (ty : TypeId) {args : List AV} {cargs : List Value} (ha : VRs J args cargs) (hl : clear? P h ats args = some h') :
    ∃ w', HR w0 J h' w' ∧ (Builtin.clear_ ats ty cargs.toArray).run P w = .ok (.tuple #[]) w' := by
  unfold clear? at hl
  split at hl
  · rename_i t x h0
    obtain ⟨cx, m, hx, hnil, rfl⟩ := ha
    simp [VRs] at hnil; subst hnil
    split at hl
    · rename_i u hu
      simp [VR] at hx; subst hx
      simp at hl; subst hl
      exact ⟨w, hr, by simp [Builtin.clear_, h0, run_und w hu]⟩
    · rename_i u hu
      simp [VR] at hx; subst hx
      simp at hl; subst hl
      exact ⟨w, hr, by simp [Builtin.clear_, h0, run_und w hu]⟩
    · rename_i u b hu
      obtain ⟨B, K, o, c, hJ, rfl⟩ := hx
      simp at hl; subst hl
      exact ⟨w, hr, by simp [Builtin.clear_, h0, run_und w hu]⟩
    · rename_i k e b hu
      split at hl
      · rename_i es c hg
        simp at hl; subst hl
        obtain ⟨B, K, hJ, cs, hes, hw⟩ := hr.get hg
        obtain ⟨B', K', hJ', rfl⟩ := hx
        rw [hJ] at hJ'; simp at hJ'; obtain ⟨rfl, rfl⟩ := hJ'
        have hB := lt_of_some hw
        refine ⟨{ w with heap := w.heap.setIfInBounds B (.map ([] : List MapEntry).toArray c) }, ?_, ?_⟩
        · exact hr.put hg hJ rfl (fun i hi => setObj_rel i hi) (by simp) rfl rfl rfl ⟨[], by simp [ER], setObj_same hB⟩
        · simp [Builtin.clear_, h0, run_und w hu, MapKept.run_getObj_map hw, MapKept.run_setObj_map _ hw]
      · simp at hl
    · rename_i elem b off n cap hu
      split at hl
      · rename_i z l hz hc
        rw [cond_eq_ite] at hl
        split at hl
        · rename_i hcond
          simp at hcond
          split at hl
          · rename_i l2 hsp
            obtain ⟨B', K', hJ', rfl⟩ := hx
            have hcellz : ∀ k, allCells (repl k (AV.v z).cells) = true := by
              intro k
              induction k with
              | zero => rfl
              | succ k ih =>
                have app : ∀ a b : List AV, allCells a = true → allCells b = true → allCells (a ++ b) = true := by
                  intro a b
                  induction a with
                  | nil => intro _ h; exact h
                  | cons x a iha => intro h1 h2; simp [allCells] at h1 ⊢; exact ⟨h1.1, iha h1.2 h2⟩
                exact app _ _ hcond.1 ih
            obtain ⟨B, K, w', hJ, hst, hr'⟩ := hr.splice (P := P) hc (repl_VRs (zcells J z) (n + 1)) (hcellz _) hsp hl
            rw [hJ] at hJ'; simp at hJ'; obtain ⟨rfl, rfl⟩ := hJ'
            have hzc : (Builtin.zeroCells z.cells (n + 1)).toList = repl (n + 1) z.cells.toList := by
              unfold Builtin.zeroCells; rw [range_map_repl]
            refine ⟨w', hr', ?_⟩
            simp [Builtin.clear_, h0, run_und w hu, run_zero w hz, hzc, hst]
          · simp at hl
        · simp at hl
      · simp at hl
    · rename_i e b off cap hu
      obtain ⟨B, K, hJ, rfl⟩ := hx
      simp at hl; subst hl
      exact ⟨w, hr, by simp [Builtin.clear_, h0, run_und w hu]⟩
    · simp at hl
  · simp at hl

theorem olen_run {P : Program} {ats : Array TypeId} (ty : TypeId) {args : List AV} {cargs : List Value} {i : Nat} (ha : VRs J args cargs) (hl : olen? P ats args = some i) :
    ∃ c, VR J (.oi .i64 i) c ∧ (Builtin.len_ ats ty cargs.toArray).run P w = .ok c w := by
  unfold olen? at hl
  split at hl
  · rename_i t i0 h0
    obtain ⟨cx, m, hx, hnil, rfl⟩ := ha
    simp [VRs] at hnil; subst hnil
    split at hl
    · rename_i e hu
      simp at hl; subst hl
      obtain ⟨B, a, cap, hJ, rfl⟩ := hx
      exact ⟨_, ⟨B, 0, hJ, rfl⟩, by simp [Builtin.len_, h0, run_und w hu, goInt]⟩
    · simp at hl
  · simp at hl


theorem builtinA_sound (hr : HR w0 J h w) {b : Builtin} {ats : Array TypeId} (ty : TypeId) (consts : Array Bool) {args : List AV} {cargs : List Value} {r : AOut} (ha : VRs J args cargs) (hb : builtinA? E.P h b ats args = some (r, h')) :
    ∃ J' w' n, Jgr h.nx J J' ∧ HR w0 J' h' w' ∧ OutR E w0 J' r n ∧ (builtin b ats ty consts cargs.toArray).run E.P w = .ok n w' := by
  unfold builtinA? at hb
  split at hb
  · split at hb
    · rename_i v h2 hap
      simp at hb; obtain ⟨rfl, rfl⟩ := hb
      obtain ⟨J', w', c, h1, h2, h3, h4⟩ := append_sound (P := E.P) hr ty ha hap
      exact ⟨J', w', _, h1, h2, ⟨c, h3, rfl⟩, by simp [builtin, h4]⟩
    · simp at hb
  · split at hb
    · rename_i v h2 hap
      simp at hb; obtain ⟨rfl, rfl⟩ := hb
      obtain ⟨w', c, h2, h3, h4⟩ := copy_sound (P := E.P) hr ty ha hap
      exact ⟨J, w', _, Jgr.refl _ J, h2, ⟨c, h3, rfl⟩, by simp [builtin, h4]⟩
    · simp at hb
  · split at hb
    · rename_i n hn
      simp at hb; obtain ⟨rfl, rfl⟩ := hb
      have h4 := len_run (P := E.P) hr ty ha hn
      exact ⟨J, w, _, Jgr.refl _ J, hr, ⟨_, VR.vv _, rfl⟩, by simp [builtin, h4]⟩
    · split at hb
      · rename_i i hi
        simp at hb; obtain ⟨rfl, rfl⟩ := hb
        obtain ⟨c, h3, h4⟩ := olen_run (P := E.P) (w := w) ty ha hi
        exact ⟨J, w, _, Jgr.refl _ J, hr, ⟨c, h3, rfl⟩, by simp [builtin, h4]⟩
      · simp at hb
  · split at hb
    · rename_i h2 hc
      simp at hb; obtain ⟨rfl, rfl⟩ := hb
      obtain ⟨w', h2, h4⟩ := clear_sound (P := E.P) hr ty ha hc
      exact ⟨J, w', _, Jgr.refl _ J, h2, ⟨_, VR.vv _, rfl⟩, by simp [builtin, h4]⟩
    · simp at hb
  · simp at hb

theorem ltO_sound {E : Env} {i : Nat} {m : Int} {b : Bool} {B K : Nat} (hg : GlobOk E J) (hJ : J i = some (B, K)) (h : ltO E i m = some b) : decide ((B : Int) - (K : Int) < m) = b := by
  have hlo : ∀ l, E.lo i = some l → (bif decide (m ≤ l) then some false else none) = some b → decide ((B : Int) - (K : Int) < m) = b := by
    intro l hl e
    rw [cond_eq_ite] at e
    split at e
    · rename_i hd
      simp at e hd; subst e
      obtain ⟨B', K', e1, e2⟩ := hg.lo i l hl
      rw [hJ] at e1; simp at e1; obtain ⟨rfl, rfl⟩ := e1
      simp; omega
    · simp at e
  unfold ltO at h
  split at h
  · rename_i u hu
    rw [cond_eq_ite] at h
    split at h
    · rename_i hd
      simp at h hd; subst h
      obtain ⟨B', K', e1, e2⟩ := hg.hi i u hu
      rw [hJ] at e1; simp at e1; obtain ⟨rfl, rfl⟩ := e1
      simp; omega
    · split at h
      · rename_i l hl; exact hlo l hl h
      · simp at h
  · split at h
    · rename_i l hl; exact hlo l hl h
    · simp at h

theorem notO_some {x : Option Bool} {b : Bool} (h : notO x = some b) : x = some (!b) := by
  unfold notO at h
  split at h
  · simp at h; subst h; simp
  · simp at h

theorem cmpO_run {E : Env} {op : BinOp} {x y : AV} {cx cy : Value} {b : Bool} (hg : GlobOk E J) (hx : VR J x cx) (hy : VR J y cy) (h : cmpO E op x y = some b) (t : TypeId) :
    (op = .lss ∨ op = .leq ∨ op = .gtr ∨ op = .geq) ∧ (binOp op t cx cy).run E.P w = .ok (.bool b) w := by
  have fin : ∀ {z z' : Bool}, z = z' → (Result.ok (Value.bool z) w : Result Value) = .ok (.bool z') w := fun e => by rw [e]
  unfold cmpO at h
  split at h
  · rename_i k i k' m
    obtain ⟨B, K, hJ, rfl⟩ := hx
    simp [VR] at hy; subst hy
    rw [cond_eq_ite] at h
    split at h
    · rename_i hk
      simp at hk; subst hk
      split at h <;> first
        | (simp at h; done)
        | (have this := ltO_sound hg hJ h
           refine ⟨by simp, ?_⟩
           simp only [binOp, Op.intCmp, ne_eq, not_true, if_false, Sem.run_pure]
           refine fin ?_
           cases b <;> simp at this ⊢ <;> omega)
        | (have this := ltO_sound hg hJ (notO_some h)
           refine ⟨by simp, ?_⟩
           simp only [binOp, Op.intCmp, ne_eq, not_true, if_false, Sem.run_pure]
           refine fin ?_
           cases b <;> simp at this ⊢ <;> omega)
    · simp at h
  · rename_i k' m k i
    obtain ⟨B, K, hJ, rfl⟩ := hy
    simp [VR] at hx; subst hx
    rw [cond_eq_ite] at h
    split at h
    · rename_i hk
      simp at hk; subst hk
      split at h <;> first
        | (simp at h; done)
        | (have this := ltO_sound hg hJ h
           refine ⟨by simp, ?_⟩
           simp only [binOp, Op.intCmp, ne_eq, not_true, if_false, Sem.run_pure]
           refine fin ?_
           cases b <;> simp at this ⊢ <;> omega)
        | (have this := ltO_sound hg hJ (notO_some h)
           refine ⟨by simp, ?_⟩
           simp only [binOp, Op.intCmp, ne_eq, not_true, if_false, Sem.run_pure]
           refine fin ?_
           cases b <;> simp at this ⊢ <;> omega)
    · simp at h
  · simp at h


end
end Go.Ev
