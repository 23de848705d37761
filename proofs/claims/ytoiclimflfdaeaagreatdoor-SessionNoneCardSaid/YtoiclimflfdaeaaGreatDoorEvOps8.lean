/- Operations of the evaluator come to what the model comes to (part 8). Condition: the memory is as the evaluator is told. -/
import Derived.Test.YtoiclimflfdaeaaGreatDoorEvOps7
import Derived.Lib.Overlaps
set_option linter.unusedSimpArgs false
set_option linter.unusedVariables false
set_option linter.constructorNameAsVariable false
namespace Go.Ev
open Go.RowKit (Below)

/-- What is known of the functions that are not walked. -/
def ExtOk (P : Program) (w0 : World) (f : FuncId) : Ext → Prop
  | .same => ∀ c w, (callFunc f #[c]).run P w = .ok (.value c) w
  | .pure e => ∀ (vs : List Value) (v : Value), pureRun P (e vs.toArray) = some v → ∀ w, Below w0.heap.size w0 w → (callFunc f vs.toArray).run P w = .ok (.value v) w
  | .spec g => ∀ (vs : List Value) (v : Value), g vs = some v → ∀ w, Below w0.heap.size w0 w → (callFunc f vs.toArray).run P w = .ok (.enter f vs.toArray) w ∧
      Calls P f vs.toArray w fun e w' => e = .returned v ∧ Below w.heap.size w w'
  | .overlaps => ∃ t tR elem size, P.underlying t = some (.slice elem) ∧ sizeOf? P elem = some size ∧ ∀ x y w, (callFunc f #[x, y]).run P w = ((Extern.SlicesOverlaps.overlaps #[t, t] #[tR] #[x, y]).run P w).andThen fun v w => .ok (Next.value v) w

structure Env.Ok (E : Env) (w0 : World) : Prop where
  mixed : E.P.follows .mixedOrders = true
  num : ∀ (f : FuncId) (fn : Func), E.P.funcs[f]? = some fn → fn.body.isSome = true → (fn.name == "runtime.NumGoroutine") = false
  small : ∀ (f : FuncId) (fn : Func), E.P.funcs[f]? = some fn → fn.ntmps ≤ 1000000
  ext : ∀ f k, E.ext f = some k → ExtOk E.P w0 f k

def OutR (E : Env) (w0 : World) (J : Jn) : AOut → Next → Prop
  | .value v, n => ∃ c, VR J v c ∧ n = .value c
  | .skip, n => n = .skip
  | .enter f args, n => ∃ cs, VRs J args cs ∧ n = .enter f cs.toArray
  | .defer d, n => ∃ c, DR J d c ∧ n = .defer c
  | .recover, n => n = .recover
  | .round l f T k a b, n => ∃ B K tmps, J l = some (B, K) ∧ TR J T k tmps ∧ n = .round B f tmps a b
  | .spec f args v, n => ∃ cs, VRs J args cs ∧ n = .enter f cs.toArray ∧ ∀ w, Below w0.heap.size w0 w → Calls E.P f cs.toArray w fun e w' => e = .returned v ∧ Below w.heap.size w w'

theorem OutR.mono {E : Env} {w0 : World} {J J' : Jn} (h : Jext J J') : ∀ {r : AOut} {n : Next}, OutR E w0 J r n → OutR E w0 J' r n
  | .value _, _, ⟨c, h1, r⟩ => ⟨c, h1.mono h, r⟩
  | .skip, _, r => r
  | .enter _ _, _, ⟨c, h1, r⟩ => ⟨c, h1.mono h, r⟩
  | .defer _, _, ⟨c, h1, r⟩ => ⟨c, h1.mono h, r⟩
  | .recover, _, r => r
  | .round _ _ _ _ _ _, _, ⟨B, K, tm, h1, h2, r⟩ => ⟨B, K, tm, h _ _ h1, h2.mono h, r⟩
  | .spec _ _ _, _, ⟨c, h1, r⟩ => ⟨c, h1.mono h, r⟩

section
variable {E : Env} {w0 : World} {J : Jn} {h h' : Hp} {w : World}

theorem plain_cells (hr : HR w0 J h w) {b : Nat} {l : List AV} {B K : Nat} (hJ : J b = some (B, K)) (hc : plainCells h b = some l) :
    ∃ arr e, w.heap[B]? = some (.cells arr e (0, 0)) ∧ l.length ≤ arr.size ∧ ∃ o, h.get b = some o := by
  unfold plainCells at hc
  split at hc
  · rename_i l0 e hg
    simp at hc; subst hc
    obtain ⟨B', K', hJ', l', h1, h2⟩ := hr.get hg
    rw [hJ] at hJ'; simp at hJ'; obtain ⟨rfl, rfl⟩ := hJ'
    exact ⟨_, e, h2, by simp [h1.length], _, hg⟩
  · rename_i l0 e sz hg
    simp at hc; subst hc
    obtain ⟨B', K', hJ', l', tl, fz, h1, h2, _, hf⟩ := hr.get hg
    have hf := hf rfl
    subst hf
    rw [hJ] at hJ'; simp at hJ'; obtain ⟨rfl, rfl⟩ := hJ'
    exact ⟨_, e, h2, by simp [h1.length], _, hg⟩
  · simp at hc

theorem overlaps_run {P : Program} (hr : HR w0 J h w) {x y : AV} {cx cy : Value} {b : Bool} (hx : VR J x cx) (hy : VR J y cy) (ho : overlaps? h x y = some b) {t tR elem : TypeId} {size : Nat} (hu : P.underlying t = some (.slice elem)) (hsz : sizeOf? P elem = some size) :
    (Extern.SlicesOverlaps.overlaps #[t, t] #[tR] #[cx, cy]).run P w = .ok (.bool b) w := by
  unfold overlaps? at ho
  split at ho
  · rename_i s1 s2 hs1 hs2
    obtain ⟨B1, K1, hJ1, rfl, _⟩ := slice_some hx hs1
    obtain ⟨B2, K2, hJ2, rfl, _⟩ := slice_some hy hs2
    split at ho
    · rename_i l1 x2 l2 hc1 hc2
      rw [cond_eq_ite] at ho
      split at ho
      · simp at ho
      · rename_i hne
        simp at ho; subst ho
        obtain ⟨a1, e1, hw1, _, o1, hg1⟩ := plain_cells hr hJ1 hc1
        obtain ⟨a2, e2, hw2, hl2, o2, hg2⟩ := plain_cells hr hJ2 hc2
        have hB : B1 ≠ B2 := by
          rintro rfl
          exact hne (beq_t (hr.inj _ _ _ _ _ _ _ _ _ (get_eq.1 hg1) (get_eq.1 hg2) hJ1 hJ2))
        exact Lib.run_overlaps_apart w t tR elem hu size (fun w => run_size w hsz) _ _ _ _ _ _ hB e1 e2 a1.size a2.size (by simp [World.shape?, hw1]) (by simp [World.shape?, hw2])
          (by simp at hl2; omega) (by simp [World.frozen?, hw1]) (by simp [World.frozen?, hw1])
    · simp at ho
  · simp at ho

theorem callFunc_sound (hE : E.Ok w0) (hr : HR w0 J h w) {f : FuncId} {args : List AV} {cargs : List Value} {r : AOut} (ha : VRs J args cargs) (hc : callFunc? E h f args = some r) :
    ∃ n, OutR E w0 J r n ∧ (callFunc f cargs.toArray).run E.P w = .ok n w := by
  unfold callFunc? at hc
  split at hc
  · split at hc
    · rename_i fn hf
      split at hc
      · rename_i c hb
        simp at hc; subst hc
        refine ⟨_, ⟨cargs, ha, rfl⟩, ?_⟩
        have := hE.num f fn hf (by rw [hb]; rfl)
        have this : ¬ fn.name = "runtime.NumGoroutine" := by simpa using this
        simp [callFunc, hf, this, hb]
      · simp at hc
    · simp at hc
  · rename_i he
    have hx := hE.ext _ _ he
    split at hc
    · rename_i x
      simp at hc; subst hc
      obtain ⟨c, m, h1, h2, rfl⟩ := ha
      simp [VRs] at h2; subst h2
      exact ⟨_, ⟨c, h1, rfl⟩, hx c w⟩
    · simp at hc
  · rename_i e he
    have hx := hE.ext _ _ he
    split at hc
    · rename_i vs hvs
      split at hc
      · rename_i v hv
        simp at hc; subst hc
        have := pures_sound _ hvs ha; subst this
        exact ⟨_, ⟨v, VR.vv v, rfl⟩, hx _ v hv w hr.below⟩
      · simp at hc
    · simp at hc
  · rename_i g he
    have hx := hE.ext _ _ he
    split at hc
    · rename_i vs hvs
      split at hc
      · rename_i v hv
        simp at hc; subst hc
        have := pures_sound _ hvs ha; subst this
        exact ⟨_, ⟨_, ha, rfl, fun w' hw' => (hx _ v hv w' hw').2⟩, (hx _ v hv w hr.below).1⟩
      · simp at hc
    · simp at hc
  · rename_i he
    obtain ⟨t, tR, elem, size, hu, hsz, hx⟩ := hE.ext _ _ he
    split at hc
    · rename_i x y
      split at hc
      · rename_i b ho
        simp at hc; subst hc
        obtain ⟨cx, m, h1, ⟨cy, m2, h2, h3, rfl⟩, rfl⟩ := ha
        simp [VRs] at h3; subst h3
        refine ⟨_, ⟨.bool b, VR.vv _, rfl⟩, ?_⟩
        rw [hx, overlaps_run hr h1 h2 ho hu hsz]; rfl
      · simp at hc
    · simp at hc

theorem target_sound {f : AV} {cf : Value} {args : List AV} {cargs : List Value} {t : ATgt} (hf : VR J f cf) (ha : VRs J args cargs) (ht : target? f args = some t) :
    ∃ d, DR J t d ∧ (Deferred.ofValue cf cargs.toArray).run E.P w = .ok d w := by
  unfold target? at ht
  split at ht
  · obtain ⟨f', cp', h1, h2, rfl⟩ := hf
    simp at ht; subst ht
    exact ⟨_, ⟨cp', f' ++ cargs, h2, h1.append ha, rfl⟩, by simp [Deferred.ofValue]⟩
  · rename_i fn first captured
    simp [VR] at hf; subst hf
    simp at ht; subst ht
    exact ⟨_, ⟨captured.toList, first.toList ++ cargs, VRs.map_v _, (VRs.map_v _).append ha, rfl⟩, by simp [Deferred.ofValue]⟩
  · obtain ⟨B, K, e, rfl⟩ := hf
    simp at ht; subst ht
    exact ⟨_, ⟨B, K, cargs, e, ha, rfl⟩, by simp [Deferred.ofValue]⟩
  · simp at ht

theorem putAll_sound : ∀ {ts : List Tmp} {args : List AV} {cargs : List Value} {T T' : Tr AV} {n : Nat} {tmps : Array Value}, TR J T n tmps → VRs J args cargs → putAll T n ts args = some T' →
    TR J T' n ((ts.zip cargs).foldl (fun tmps (p : Tmp × Value) => tmps.setIfInBounds p.1 p.2) tmps)
  | [], [], cargs, T, T', n, tmps, ht, ha, hp => by
    simp [VRs] at ha; subst ha
    simp [putAll] at hp; subst hp
    simpa using ht
  | [], _ :: _, _, _, _, _, _, _, _, hp => by simp [putAll] at hp
  | _ :: _, [], _, _, _, _, _, _, _, hp => by simp [putAll] at hp
  | t :: ts, x :: xs, _, T, T', n, tmps, ht, ⟨y, m, h1, h2, rfl⟩, hp => by
    simp only [putAll] at hp
    rw [cond_eq_ite] at hp
    split at hp
    · rename_i hlt
      simp at hlt
      refine putAll_sound (ts := ts) (T := T.upd bits t (some x)) ?_ h2 hp
      obtain ⟨hs, hn, hv⟩ := ht
      refine ⟨by simpa using hs, hn, fun j hj => ?_⟩
      have hf : (T.upd bits t (some x)).find j = if j = t then some x else T.find j := find_upd (by omega)
      unfold tmp
      rw [hf]
      by_cases hjt : j = t
      · subst hjt
        have hlt' : j < tmps.size := by omega
        simpa [hlt'] using h1
      · rw [if_neg hjt]
        have := hv j hj
        unfold tmp at this
        simpa [Array.getElem?_setIfInBounds_ne (Ne.symm hjt)] using this
    · simp at hp

theorem invoke_sound (hE : E.Ok w0) (hm : E.more = false) (hr : HR w0 J h w) {t : ATgt} {d : Deferred} {r : AOut} (ht : DR J t d) (hi : invoke? E h t = some r) :
    ∃ n, OutR E w0 J r n ∧ (invoke d.target d.args).run E.P w = .ok n w := by
  unfold invoke? at hi
  split at hi
  · rename_i f captured args
    obtain ⟨cp', args', h1, h2, rfl⟩ := ht
    obtain ⟨n, hn, hrun⟩ := callFunc_sound hE hr (h2.append h1) hi
    exact ⟨n, hn, by simpa [invoke] using hrun⟩
  · simp [hm] at hi
  · simp at hi

end
end Go.Ev
