/- Operations of the evaluator come to what the model comes to (part 7). Condition: the memory is as the evaluator is told. -/
import Derived.Test.YtoiclimflfdaeaaGreatDoorEvOps6
import Derived.MapKept
import Derived.Laws.BytesString
set_option linter.unusedSimpArgs false
set_option linter.unusedVariables false
set_option linter.constructorNameAsVariable false
namespace Go.Ev
open Go.RowKit (Below)

/-! Maps. -/
def strip (e : MapEntry) : MapEntry := { e with val := .tuple #[] }

theorem ER.length {J : Jn} : ∀ {es : List (AV × AV × Nat)} {cs : List MapEntry}, ER J es cs → cs.length = es.length
  | [], _, h => by simp [ER] at h; simp [h]
  | (_, _, _) :: _, _, ⟨_, _, _, _, _, h, r⟩ => by subst r; simp [ER.length h]

theorem ER.get {J : Jn} : ∀ {es : List (AV × AV × Nat)} {cs : List MapEntry} (i : Nat) {k v : AV} {n : Nat}, ER J es cs → es[i]? = some (k, v, n) → ∃ e, cs[i]? = some e ∧ VR J k e.key ∧ VR J v e.val ∧ e.born = n
  | [], _, i, _, _, _, h, g => by simp at g
  | (_, _, _) :: _, _, 0, _, _, _, ⟨e, m, h1, h2, h3, h4, r⟩, g => by subst r; simp at g; obtain ⟨rfl, rfl, rfl⟩ := g; exact ⟨e, rfl, h1, h2, h3⟩
  | (_, _, _) :: _, _, i + 1, _, _, _, ⟨e, m, h1, h2, h3, h4, r⟩, g => by subst r; simpa using ER.get i h4 (by simpa using g)

theorem ER.append {J : Jn} : ∀ {a : List (AV × AV × Nat)} {c : List MapEntry} {b : List (AV × AV × Nat)} {d : List MapEntry}, ER J a c → ER J b d → ER J (a ++ b) (c ++ d)
  | [], _, _, _, h, h' => by simp [ER] at h; simpa [h] using h'
  | (_, _, _) :: _, _, _, _, ⟨e, m, h1, h2, h3, h4, r⟩, h' => by subst r; exact ⟨e, _, h1, h2, h3, ER.append h4 h', rfl⟩

theorem ER.setAt {J : Jn} : ∀ {es : List (AV × AV × Nat)} {cs : List MapEntry} (i : Nat) {k v : AV} {n : Nat} {e : MapEntry}, ER J es cs → VR J k e.key → VR J v e.val → e.born = n → ER J (setAt es i (k, v, n)) (cs.set i e)
  | [], _, i, _, _, _, _, h, _, _, _ => by simp [ER] at h; subst h; simp [Ev.setAt, ER]
  | (_, _, _) :: _, _, 0, _, _, _, e, ⟨_, m, _, _, _, h4, r⟩, a, b, c => by subst r; exact ⟨e, m, a, b, c, h4, rfl⟩
  | (_, _, _) :: _, _, i + 1, _, _, _, e, ⟨e0, m, h1, h2, h3, h4, r⟩, a, b, c => by subst r; exact ⟨e0, _, h1, h2, h3, ER.setAt i h4 a b c, rfl⟩

theorem keys_eq {J : Jn} : ∀ {es : List (AV × AV × Nat)} {cs ks : List MapEntry}, ER J es cs → keys? es = some ks → ks = cs.map strip
  | [], _, _, h, g => by simp [ER] at h; subst h; simp [keys?] at g; subst g; rfl
  | (k, v, n) :: es, _, _, ⟨e, m, h1, h2, h3, h4, r⟩, g => by
    subst r
    simp only [keys?] at g
    split at g
    · rename_i k' hk
      split at g
      · rename_i es' hes
        simp at g; subst g
        have := keys_eq h4 hes
        have hke := pure_sound _ hk h1
        simp [strip, this, ← hke, h3]
      · simp at g
    · simp at g

theorem findNow_strip (kind : TypeDesc) (k : Value) : ∀ (es : List MapEntry) (i : Nat), Instr.findNow kind k (es.map strip) i = (Instr.findNow kind k es i).map (Option.map fun p => (p.1, .tuple #[]))
  | [], i => by simp [Instr.findNow]
  | e :: es, i => by
    simp only [List.map_cons, Instr.findNow, strip]
    split
    · rename_i h; simp
    · rename_i h; exact findNow_strip kind k es (i + 1)
    · simp

theorem findNow_at (kind : TypeDesc) (k : Value) : ∀ (es : List MapEntry) (i j : Nat) (v : Value), Instr.findNow kind k es i = some (some (j, v)) → i ≤ j ∧ (es[j - i]?).map (·.val) = some v
  | [], i, j, v, h => by simp [Instr.findNow] at h
  | e :: es, i, j, v, h => by
    simp only [Instr.findNow] at h
    split at h
    · simp at h; obtain ⟨rfl, rfl⟩ := h; simp
    · obtain ⟨h1, h2⟩ := findNow_at kind k es (i + 1) j v h
      refine ⟨by omega, ?_⟩
      rw [show j - i = (j - (i + 1)) + 1 by omega]
      simpa using h2
    · simp at h

theorem findAsking_strip {P : Program} (kt : TypeId) (k : Value) : ∀ (es : List MapEntry) (i : Nat) (w : World) (r : Option (Nat × Value)) (w' : World), (Instr.findAsking kt k (es.map strip) i).run P w = .ok r w' →
    match r with
    | none => (Instr.findAsking kt k es i).run P w = .ok none w'
    | some (j, _) => ∃ v, (Instr.findAsking kt k es i).run P w = .ok (some (j, v)) w' ∧ i ≤ j ∧ (es[j - i]?).map (·.val) = some v
  | [], i, w, r, w', h => by simp [Instr.findAsking] at h; obtain ⟨rfl, rfl⟩ := h; simp [Instr.findAsking]
  | e :: es, i, w, r, w', h => by
    simp only [List.map_cons, Instr.findAsking, Sem.run_bind] at h ⊢
    have hk : (strip e).key = e.key := rfl
    rw [hk] at h
    cases hq : (Op.equal kt k e.key).run P w with
    | halt a b => rw [hq] at h; simp at h
    | ok b w1 =>
      rw [hq] at h
      simp only [Result.andThen_ok] at h ⊢
      cases b with
      | true =>
        simp at h
        obtain ⟨rfl, rfl⟩ := h
        exact ⟨e.val, by simp, Nat.le_refl _, by simp⟩
      | false =>
        simp only [Bool.false_eq_true, if_false] at h ⊢
        have ih := findAsking_strip kt k es (i + 1) w1 r w' h
        cases r with
        | none => exact ih
        | some p =>
          obtain ⟨j, d⟩ := p
          obtain ⟨v, h1, h2, h3⟩ := ih
          refine ⟨v, h1, by omega, ?_⟩
          rw [show j - i = (j - (i + 1)) + 1 by omega]
          simpa using h3

theorem findKey_strip {P : Program} {kt : TypeId} {k : Value} {es : List MapEntry} {w w' : World} {r : Option (Nat × Value)} (h : (Instr.findKey kt k (es.map strip)).run P w = .ok r w') :
    match r with
    | none => (Instr.findKey kt k es).run P w = .ok none w'
    | some (j, _) => ∃ v, (Instr.findKey kt k es).run P w = .ok (some (j, v)) w' ∧ (es[j]?).map (·.val) = some v := by
  simp only [Instr.findKey, Sem.run_bind] at h ⊢
  cases hu : (underlying kt).run P w with
  | halt a b => rw [hu] at h; simp at h
  | ok d w1 =>
    rw [hu] at h
    simp only [Result.andThen_ok] at h ⊢
    rw [findNow_strip] at h
    cases hf : Instr.findNow d k es 0 with
    | none =>
      rw [hf] at h
      simp only [Option.map_none] at h
      have := findAsking_strip kt k es 0 w1 r w' h
      cases r with
      | none => exact this
      | some p => obtain ⟨v, h1, _, h3⟩ := this; exact ⟨v, h1, by simpa using h3⟩
    | some q =>
      rw [hf] at h
      cases q with
      | none => simp at h; obtain ⟨rfl, rfl⟩ := h; simp
      | some p =>
        obtain ⟨j, v⟩ := p
        simp at h
        obtain ⟨rfl, rfl⟩ := h
        exact ⟨v, by simp, by simpa using (findNow_at d k es 0 j v hf).2⟩

section
variable {P : Program} {w0 : World} {J : Jn} {h h' : Hp} {w : World}

theorem afind_sound {kt : TypeId} {k : Value} {es : List (AV × AV × Nat)} {cs : List MapEntry} (hes : ER J es cs) {r : Option (Nat × AV)} (hf : afind P kt k es = some r) (w : World) :
    match r with
    | none => (Instr.findKey kt k cs).run P w = .ok none w
    | some (j, x) => ∃ v k' n, (Instr.findKey kt k cs).run P w = .ok (some (j, v)) w ∧ es[j]? = some (k', x, n) ∧ VR J x v := by
  unfold afind at hf
  split at hf
  · rename_i ks hks
    have hk := keys_eq hes hks
    subst hk
    split at hf
    · rename_i hp
      simp at hf; subst hf
      exact findKey_strip (pureRun_sound _ hp w)
    · rename_i i d hp
      split at hf
      · rename_i k' x n hx
        simp at hf; subst hf
        obtain ⟨v, h1, h2⟩ := findKey_strip (pureRun_sound _ hp w)
        obtain ⟨e, he, _, hv, _⟩ := hes.get i hx
        rw [he] at h2
        simp at h2; subst h2
        exact ⟨_, k', n, h1, hx, hv⟩
      · simp at hf
    · simp at hf
  · simp at hf

theorem isEmpty_rel {es : List (AV × AV × Nat)} {cs : List MapEntry} (hes : ER J es cs) : cs.toArray.isEmpty = es.isEmpty := by
  have := hes.length
  cases es <;> cases cs <;> simp_all

theorem mapOf_rel (hr : HR w0 J h w) {m : AV} {cm : Value} {es : List (AV × AV × Nat)} {clock : Nat} (hm : VR J m cm) (hmo : mapOf? h m = some (es, clock)) :
    ∃ cs, ER J es cs ∧ ((cm = .map none ∧ cs = []) ∨ ∃ B, cm = .map (some B) ∧ w.heap[B]? = some (.map cs.toArray clock)) := by
  unfold mapOf? at hmo
  split at hmo
  · simp [VR] at hm; subst hm
    simp at hmo; obtain ⟨rfl, rfl⟩ := hmo
    exact ⟨[], by simp [ER], .inl ⟨rfl, rfl⟩⟩
  · rename_i b
    split at hmo
    · rename_i es0 c0 hg
      simp at hmo; obtain ⟨rfl, rfl⟩ := hmo
      obtain ⟨B, K, hJ, cs, hes, hw⟩ := hr.get hg
      obtain ⟨B', K', hJ', rfl⟩ := hm
      rw [hJ] at hJ'; simp at hJ'; obtain ⟨rfl, rfl⟩ := hJ'
      exact ⟨cs, hes, .inr ⟨B, rfl, hw⟩⟩
    · simp at hmo
  · simp at hmo

theorem lookup_run (hr : HR w0 J h w) {t : TypeId} {m k v : AV} {cm ck : Value} {ok : Bool} (hm : VR J m cm) (hk : VR J k ck) (hl : lookup? P h t m k ok = some v) :
    ∃ c, VR J v c ∧ (Instr.lookup t cm ck ok).run P w = .ok c w := by
  unfold lookup? at hl
  split at hl
  · rename_i kt et es clock kv hu hmo hkp
    have hkv := pure_sound _ hkp hk
    subst hkv
    obtain ⟨cs, hes, hcm⟩ := mapOf_rel hr hm hmo
    split at hl
    · rename_i hck
      have hckr := pureRun_sound _ hck w
      rw [← isEmpty_rel hes] at hckr
      split at hl
      · rename_i i x hf
        obtain ⟨cv, k', n, hfr, _, hv⟩ := afind_sound hes hf w
        simp at hl; subst hl
        refine ⟨if ok then .tuple #[cv, .bool true] else cv, ?_, ?_⟩
        · cases ok
          · exact hv
          · exact ⟨[cv, .bool true], ⟨cv, _, hv, ⟨_, [], VR.vv _, VRs.nil, rfl⟩, rfl⟩, rfl⟩
        · rcases hcm with ⟨rfl, rfl⟩ | ⟨B, rfl, hw⟩
          · simp only [Instr.lookup, Sem.run_bind, run_und w hu, Result.andThen_ok, hckr, hfr, Sem.run_pure]
          · simp only [Instr.lookup, Sem.run_bind, run_und w hu, Result.andThen_ok, MapKept.run_getObj_map hw, hckr, hfr, Sem.run_pure]
      · rename_i hf
        have hfr := afind_sound hes hf w
        split at hl
        · rename_i z hz
          simp at hl; subst hl
          refine ⟨if ok then .tuple #[z, .bool false] else z, ?_, ?_⟩
          · cases ok
            · exact VR.vv _
            · exact ⟨[z, .bool false], ⟨z, _, VR.vv _, ⟨_, [], VR.vv _, VRs.nil, rfl⟩, rfl⟩, rfl⟩
          · rcases hcm with ⟨rfl, rfl⟩ | ⟨B, rfl, hw⟩
            · simp only [Instr.lookup, Sem.run_bind, run_und w hu, Result.andThen_ok, hckr, hfr, Sem.run_pure, run_zero w hz]
            · simp only [Instr.lookup, Sem.run_bind, run_und w hu, Result.andThen_ok, MapKept.run_getObj_map hw, hckr, hfr, Sem.run_pure, run_zero w hz]
        · simp at hl
      · simp at hl
    · simp at hl
  · simp at hl

theorem setObj_rel {w : World} {B : Nat} {o : Obj} (i : Nat) (hi : i ≠ B) : ({ w with heap := w.heap.setIfInBounds B o } : World).heap[i]? = w.heap[i]? := by
  simp [Array.getElem?_setIfInBounds_ne (Ne.symm hi)]

theorem setObj_same {w : World} {B : Nat} {o : Obj} (hB : B < w.heap.size) : ({ w with heap := w.heap.setIfInBounds B o } : World).heap[B]? = some o := by
  simp [hB]

theorem mapUpdate_sound (hr : HR w0 J h w) {t : TypeId} {m k x : AV} {cm ck cx : Value} (hm : VR J m cm) (hk : VR J k ck) (hx : VR J x cx) (hl : mapUpdate? P h t m k x = some h') :
    ∃ w', HR w0 J h' w' ∧ (Instr.mapUpdate t cm ck cx).run P w = .ok () w' := by
  unfold mapUpdate? at hl
  split at hl
  · rename_i kt et b kv hu hkp
    have hkv := pure_sound _ hkp hk
    subst hkv
    split at hl
    · rename_i es c hg
      obtain ⟨B, K, hJ, cs, hes, hw⟩ := hr.get hg
      obtain ⟨B', K', hJ', rfl⟩ := hm
      rw [hJ] at hJ'; simp at hJ'; obtain ⟨rfl, rfl⟩ := hJ'
      have hB := lt_of_some hw
      split at hl
      · rename_i hck
        have hckr := pureRun_sound _ hck w
        split at hl
        · rename_i i d hf
          obtain ⟨cv, k1, n1, hfr, hes1, _⟩ := afind_sound hes hf w
          split at hl
          · rename_i k' d' n hei
            split at hl
            · rename_i kp hkp'
              rw [cond_eq_ite] at hl
              split at hl
              · rename_i hsame
                simp at hl; subst hl
                obtain ⟨e, he, hke, _, hn⟩ := hes.get i hei
                have hkey := pure_sound _ hkp' hke
                refine ⟨{ w with heap := w.heap.setIfInBounds B (.map (cs.set i { e with key := ck, val := cx }).toArray c) }, ?_, ?_⟩
                · exact hr.put hg hJ rfl (fun i hi => setObj_rel i hi) (by simp) rfl rfl rfl ⟨_, ER.setAt (e := { e with key := ck, val := cx }) i hes (VR.vv ck) hx hn, setObj_same hB⟩
                · have hmod : cs.toArray.modify i (fun e => { e with key := ck, val := cx }) = (cs.set i { e with key := ck, val := cx }).toArray := by
                    apply Array.ext'
                    simp only [Array.toList_modify]
                    apply List.ext_getElem?
                    intro j
                    rw [List.getElem?_modify, List.getElem?_set]
                    by_cases hj : i = j
                    · subst hj
                      have hlt : i < cs.length := (List.getElem?_eq_some_iff.1 he).1
                      rw [he]; simp [hlt]
                    · simp [hj]
                  have hkts : (Instr.keyThatStays (((cs.toArray[i]?).map (·.key)).getD ck) ck).run P w = .ok ck w := by
                    simp only [List.getElem?_toArray, he, Option.map_some, Option.getD_some]
                    rw [hkey] at *
                    simp [Instr.keyThatStays, hsame]
                  simp only [Instr.mapUpdate, Sem.run_bind, run_und w hu, Result.andThen_ok, MapKept.run_getObj_map hw, hckr, hfr, hkts, MapKept.run_setObj_map _ hw, hmod]
              · simp at hl
            · simp at hl
          · simp at hl
        · rename_i hf
          have hfr := afind_sound hes hf w
          simp at hl; subst hl
          refine ⟨{ w with heap := w.heap.setIfInBounds B (.map (cs ++ [({ key := ck, val := cx, born := c } : MapEntry)]).toArray (c + 1)) }, ?_, ?_⟩
          · exact hr.put hg hJ rfl (fun i hi => setObj_rel i hi) (by simp) rfl rfl rfl
              ⟨_, ER.append (d := [({ key := ck, val := cx, born := c } : MapEntry)]) hes ⟨{ key := ck, val := cx, born := c }, [], VR.vv ck, hx, rfl, by simp [ER], rfl⟩, setObj_same hB⟩
          · simp only [Instr.mapUpdate, Sem.run_bind, run_und w hu, Result.andThen_ok, MapKept.run_getObj_map hw, hckr, hfr, MapKept.run_setObj_map _ hw]
            simp
        · simp at hl
      · simp at hl
    · simp at hl
  · simp at hl

end
end Go.Ev
