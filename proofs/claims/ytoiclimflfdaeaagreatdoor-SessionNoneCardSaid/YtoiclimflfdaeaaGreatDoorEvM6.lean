/- What a function hands back, and how it is entered, as the evaluator says. Condition: the memory is as the evaluator is told. -/
import Derived.Test.YtoiclimflfdaeaaGreatDoorEvM5
set_option linter.unusedSimpArgs false
set_option linter.unusedVariables false
set_option linter.constructorNameAsVariable false
namespace Go.Ev
open Go.RowKit (Below)

theorem bytes_eq {a b : ByteArray} (h : (a == b) = true) : a = b := by
  obtain ⟨x⟩ := a; obtain ⟨y⟩ := b
  have h2 : (x == y) = true := h
  simp at h2
  rw [h2]

theorem vsame_eq {x y : Value} (h : vsame x y = true) : x = y := by
  unfold vsame at h
  split at h <;> first
    | (simp at h; done)
    | rfl
    | (simp at h; simp [h]; done)
    | (simp at h; obtain ⟨h1, h2⟩ := h; simp [h1, h2]; done)
    | (rw [bytes_eq h]; done)

mutual
theorem asame_sound : ∀ (x y : AV), asame x y = true → ∀ J c, VR J x c → VR J y c
  | .v x, .v y, h, J, c, hv => by simp only [asame] at h; rw [← vsame_eq h]; exact hv
  | .ptr b o, .ptr b' o', h, J, c, hv => by simp [asame] at h; obtain ⟨rfl, rfl⟩ := h; exact hv
  | .sl b o l c, .sl b' o' l' c', h, J, x, hv => by simp [asame] at h; obtain ⟨⟨⟨rfl, rfl⟩, rfl⟩, rfl⟩ := h; exact hv
  | .slu b o l c, .slu b' o' l' c', h, J, x, hv => by simp [asame] at h; obtain ⟨⟨⟨rfl, rfl⟩, rfl⟩, rfl⟩ := h; exact hv
  | .sle b, .sle b', h, J, x, hv => by simp [asame] at h; subst h; exact hv
  | .map b, .map b', h, J, x, hv => by simp [asame] at h; subst h; exact hv
  | .agg l, .agg l', h, J, c, ⟨m, hm, e⟩ => ⟨m, asames_sound l l' h J m hm, e⟩
  | .tup l, .tup l', h, J, c, ⟨m, hm, e⟩ => ⟨m, asames_sound l l' h J m hm, e⟩
  | .func fn f cp, .func fn' f' cp', h, J, c, ⟨a, b, h1, h2, e⟩ => by
    simp [asame] at h
    obtain ⟨⟨rfl, hf⟩, hc⟩ := h
    exact ⟨a, b, asames_sound f f' hf J a h1, asames_sound cp cp' hc J b h2, e⟩
  | .yield _, _, h, _, _, _ => by simp [asame] at h
  | .iface _ _, _, h, _, _, _ => by simp [asame] at h
  | .v _, .ptr .., h, _, _, _ => by simp [asame] at h
  | .v _, .sl .., h, _, _, _ => by simp [asame] at h
  | .v _, .slu .., h, _, _, _ => by simp [asame] at h
  | .v _, .sle .., h, _, _, _ => by simp [asame] at h
  | .v _, .map .., h, _, _, _ => by simp [asame] at h
  | .v _, .func .., h, _, _, _ => by simp [asame] at h
  | .v _, .yield .., h, _, _, _ => by simp [asame] at h
  | .v _, .iface .., h, _, _, _ => by simp [asame] at h
  | .v _, .agg .., h, _, _, _ => by simp [asame] at h
  | .v _, .tup .., h, _, _, _ => by simp [asame] at h
  | .ptr .., .v .., h, _, _, _ => by simp [asame] at h
  | .ptr .., .sl .., h, _, _, _ => by simp [asame] at h
  | .ptr .., .slu .., h, _, _, _ => by simp [asame] at h
  | .ptr .., .sle .., h, _, _, _ => by simp [asame] at h
  | .ptr .., .map .., h, _, _, _ => by simp [asame] at h
  | .ptr .., .func .., h, _, _, _ => by simp [asame] at h
  | .ptr .., .yield .., h, _, _, _ => by simp [asame] at h
  | .ptr .., .iface .., h, _, _, _ => by simp [asame] at h
  | .ptr .., .agg .., h, _, _, _ => by simp [asame] at h
  | .ptr .., .tup .., h, _, _, _ => by simp [asame] at h
  | .sl .., .v .., h, _, _, _ => by simp [asame] at h
  | .sl .., .ptr .., h, _, _, _ => by simp [asame] at h
  | .sl .., .slu .., h, _, _, _ => by simp [asame] at h
  | .sl .., .sle .., h, _, _, _ => by simp [asame] at h
  | .sl .., .map .., h, _, _, _ => by simp [asame] at h
  | .sl .., .func .., h, _, _, _ => by simp [asame] at h
  | .sl .., .yield .., h, _, _, _ => by simp [asame] at h
  | .sl .., .iface .., h, _, _, _ => by simp [asame] at h
  | .sl .., .agg .., h, _, _, _ => by simp [asame] at h
  | .sl .., .tup .., h, _, _, _ => by simp [asame] at h
  | .slu .., .v .., h, _, _, _ => by simp [asame] at h
  | .slu .., .ptr .., h, _, _, _ => by simp [asame] at h
  | .slu .., .sl .., h, _, _, _ => by simp [asame] at h
  | .slu .., .sle .., h, _, _, _ => by simp [asame] at h
  | .slu .., .map .., h, _, _, _ => by simp [asame] at h
  | .slu .., .func .., h, _, _, _ => by simp [asame] at h
  | .slu .., .yield .., h, _, _, _ => by simp [asame] at h
  | .slu .., .iface .., h, _, _, _ => by simp [asame] at h
  | .slu .., .agg .., h, _, _, _ => by simp [asame] at h
  | .slu .., .tup .., h, _, _, _ => by simp [asame] at h
  | .sle .., .v .., h, _, _, _ => by simp [asame] at h
  | .sle .., .ptr .., h, _, _, _ => by simp [asame] at h
  | .sle .., .sl .., h, _, _, _ => by simp [asame] at h
  | .sle .., .slu .., h, _, _, _ => by simp [asame] at h
  | .sle .., .map .., h, _, _, _ => by simp [asame] at h
  | .sle .., .func .., h, _, _, _ => by simp [asame] at h
  | .sle .., .yield .., h, _, _, _ => by simp [asame] at h
  | .sle .., .iface .., h, _, _, _ => by simp [asame] at h
  | .sle .., .agg .., h, _, _, _ => by simp [asame] at h
  | .sle .., .tup .., h, _, _, _ => by simp [asame] at h
  | .map .., .v .., h, _, _, _ => by simp [asame] at h
  | .map .., .ptr .., h, _, _, _ => by simp [asame] at h
  | .map .., .sl .., h, _, _, _ => by simp [asame] at h
  | .map .., .slu .., h, _, _, _ => by simp [asame] at h
  | .map .., .sle .., h, _, _, _ => by simp [asame] at h
  | .map .., .func .., h, _, _, _ => by simp [asame] at h
  | .map .., .yield .., h, _, _, _ => by simp [asame] at h
  | .map .., .iface .., h, _, _, _ => by simp [asame] at h
  | .map .., .agg .., h, _, _, _ => by simp [asame] at h
  | .map .., .tup .., h, _, _, _ => by simp [asame] at h
  | .agg .., .v .., h, _, _, _ => by simp [asame] at h
  | .agg .., .ptr .., h, _, _, _ => by simp [asame] at h
  | .agg .., .sl .., h, _, _, _ => by simp [asame] at h
  | .agg .., .slu .., h, _, _, _ => by simp [asame] at h
  | .agg .., .sle .., h, _, _, _ => by simp [asame] at h
  | .agg .., .map .., h, _, _, _ => by simp [asame] at h
  | .agg .., .func .., h, _, _, _ => by simp [asame] at h
  | .agg .., .yield .., h, _, _, _ => by simp [asame] at h
  | .agg .., .iface .., h, _, _, _ => by simp [asame] at h
  | .agg .., .tup .., h, _, _, _ => by simp [asame] at h
  | .tup .., .v .., h, _, _, _ => by simp [asame] at h
  | .tup .., .ptr .., h, _, _, _ => by simp [asame] at h
  | .tup .., .sl .., h, _, _, _ => by simp [asame] at h
  | .tup .., .slu .., h, _, _, _ => by simp [asame] at h
  | .tup .., .sle .., h, _, _, _ => by simp [asame] at h
  | .tup .., .map .., h, _, _, _ => by simp [asame] at h
  | .tup .., .func .., h, _, _, _ => by simp [asame] at h
  | .tup .., .yield .., h, _, _, _ => by simp [asame] at h
  | .tup .., .iface .., h, _, _, _ => by simp [asame] at h
  | .tup .., .agg .., h, _, _, _ => by simp [asame] at h
  | .func .., .v .., h, _, _, _ => by simp [asame] at h
  | .func .., .ptr .., h, _, _, _ => by simp [asame] at h
  | .func .., .sl .., h, _, _, _ => by simp [asame] at h
  | .func .., .slu .., h, _, _, _ => by simp [asame] at h
  | .func .., .sle .., h, _, _, _ => by simp [asame] at h
  | .func .., .map .., h, _, _, _ => by simp [asame] at h
  | .func .., .yield .., h, _, _, _ => by simp [asame] at h
  | .func .., .iface .., h, _, _, _ => by simp [asame] at h
  | .func .., .agg .., h, _, _, _ => by simp [asame] at h
  | .func .., .tup .., h, _, _, _ => by simp [asame] at h
  | .v _, .oi .., h, _, _, _ => by simp [asame] at h
  | .v _, .osl .., h, _, _, _ => by simp [asame] at h
  | .ptr .., .oi .., h, _, _, _ => by simp [asame] at h
  | .ptr .., .osl .., h, _, _, _ => by simp [asame] at h
  | .sl .., .oi .., h, _, _, _ => by simp [asame] at h
  | .sl .., .osl .., h, _, _, _ => by simp [asame] at h
  | .slu .., .oi .., h, _, _, _ => by simp [asame] at h
  | .slu .., .osl .., h, _, _, _ => by simp [asame] at h
  | .sle .., .oi .., h, _, _, _ => by simp [asame] at h
  | .sle .., .osl .., h, _, _, _ => by simp [asame] at h
  | .map .., .oi .., h, _, _, _ => by simp [asame] at h
  | .map .., .osl .., h, _, _, _ => by simp [asame] at h
  | .func .., .oi .., h, _, _, _ => by simp [asame] at h
  | .func .., .osl .., h, _, _, _ => by simp [asame] at h
  | .agg .., .oi .., h, _, _, _ => by simp [asame] at h
  | .agg .., .osl .., h, _, _, _ => by simp [asame] at h
  | .tup .., .oi .., h, _, _, _ => by simp [asame] at h
  | .tup .., .osl .., h, _, _, _ => by simp [asame] at h
  | .oi .., _, h, _, _, _ => by simp [asame] at h
  | .osl .., _, h, _, _, _ => by simp [asame] at h
theorem asames_sound : ∀ (x y : List AV), asames x y = true → ∀ J c, VRs J x c → VRs J y c
  | [], [], _, _, _, hv => hv
  | x :: l, y :: l', h, J, c, ⟨a, b, h1, h2, e⟩ => by
    simp [asames] at h
    exact ⟨a, b, asame_sound x y h.1 J a h1, asames_sound l l' h.2 J b h2, e⟩
  | [], _ :: _, h, _, _, _ => by simp [asames] at h
  | _ :: _, [], h, _, _, _ => by simp [asames] at h
end

section
variable {E : Env} {w0 : World} {J : Jn} {h : Hp} {w : World} {lo : Nat} {ops : Array Oper} {listed : Nat} {pend : List Pend} {T : Tr AV} {n : Nat} {a : Act} {X : Array Bool} {rest : List Nat}

theorem holdsStill_sound (hm : E.more = false) : ∀ {pend : List Pend}, (∀ m ∈ pend, X[m.i]? = some false → m.b = none → Fact E ops T m) → holdsStill E ops h T pend = true → Looks E ops h T X pend := by
  intro pend
  induction pend with
  | nil => intro _ _ m hm; simp at hm
  | cons x l ih =>
    intro hf hs m hmm hx
    simp only [holdsStill, Bool.and_eq_true] at hs
    rcases List.mem_cons.1 hmm with rfl | hm2
    · intro hb hw hl
      have h1 := hs.1
      simp only [hl, hw, hb, isNone, Bool.and_self, cond_true] at h1
      have hq : quiet m.o = true := by
        rcases hf m (by simp) hx hb with ⟨f1, _⟩ | ⟨_, f2, _⟩
        · rw [hw] at f1; simp at f1
        · exact f2
      rw [aop_eq hm] at h1
      split at h1
      · rename_i v h' d ha hd
        obtain ⟨rfl, _⟩ := quiet_value hq ha
        refine ⟨v, ha, fun d' hd' J c hv => ?_⟩
        rw [hd] at hd'; simp at hd'; subst hd'
        exact asame_sound _ _ h1 J c hv
      · simp at h1
    · exact ih (fun m hm => hf m (by simp [hm])) hs.2 m hm2 hx

/-- What a function hands back. -/
def resVar (tmps : Array Value) : ResultVar → Sem Value
  | .tmp t => pure (tmps.getD t undef)
  | .cell x t => do loadVar t (← asAddr (tmps.getD x undef))

theorem results_eq (g : Func) (tmps : Array Value) : results g tmps = (do let vs ← g.results.mapM (resVar tmps); pure (if h : vs.size = 1 then vs[0] else .tuple vs)) := by
  unfold results
  congr 1

theorem result_list (hh : HR w0 J h w) (ht : TR J T n a.tmps) : ∀ {l : List ResultVar} {r : List AV}, resultOf.go E T h l = some r →
    ∃ c, VRs J r c ∧ (l.mapM (resVar a.tmps)).run E.P w = .ok c w
  | [], r, hg => by simp [resultOf.go] at hg; subst hg; exact ⟨[], VRs.nil, by simp⟩
  | .tmp t :: l, r, hg => by
    simp only [resultOf.go] at hg
    split at hg
    · rename_i r' hr'
      simp at hg; subst hg
      obtain ⟨c, h1, h2⟩ := result_list hh ht hr'
      exact ⟨_, VRs.cons (ht.2.2 t (fun f => f)) h1, by rw [List.mapM_cons]; simp [resVar, h2]⟩
    · simp at hg
  | .cell x t :: l, r, hg => by
    simp only [resultOf.go] at hg
    split at hg
    · rename_i v r' hv hr'
      simp at hg; subst hg
      obtain ⟨c, h1, h2⟩ := result_list hh ht hr'
      have hx := ht.2.2 x (fun f => f)
      obtain ⟨c', h3, h4⟩ := load_sound (P := E.P) hh hx hv
      refine ⟨c' :: c, VRs.cons h3 h1, ?_⟩
      have h5 : (do loadVar t (← asAddr (a.tmps.getD x undef)) : Sem Value).run E.P w = .ok c' w := by
        unfold load? at hv
        split at hv
        · rename_i e
          rw [e] at hx
          obtain ⟨B, K, _, e2⟩ := hx
          rw [e2] at h4 ⊢
          simpa [Instr.loadAt, Instr.sureAddr, asAddr] using h4
        · simp at hv
      rw [List.mapM_cons]
      have h6 : (resVar a.tmps (.cell x t)).run E.P w = .ok c' w := h5
      simp only [Sem.run_bind, h6, Result.andThen_ok, h2, Sem.run_pure]
    · simp at hg

theorem resultOf_sound (hh : HR w0 J h w) (ht : TR J T n a.tmps) {fn : FuncId} {v : AV} (hr : resultOf E fn T h = some v) : ∃ g c, E.P.funcs[fn]? = some g ∧ VR J v c ∧ (results g a.tmps).run E.P w = .ok c w := by
  unfold resultOf at hr
  split at hr
  · rename_i g hg
    have key : ∀ {r : List AV}, resultOf.go E T h g.results.toList = some r → ∃ c, VRs J r c ∧ (results g a.tmps).run E.P w = .ok (if h : c.toArray.size = 1 then c.toArray[0] else .tuple c.toArray) w := by
      intro r e
      obtain ⟨c, h1, h2⟩ := result_list hh ht e
      refine ⟨c, h1, ?_⟩
      rw [results_eq, Array.mapM_eq_mapM_toList]
      simp only [Sem.run_bind, Sem.run_map, Sem.run_pure]
      rw [h2]
      rfl
    split at hr
    · rename_i x e
      simp at hr; subst hr
      obtain ⟨c, ⟨y, m, h1, h2, rfl⟩, h3⟩ := key e
      simp [VRs] at h2; subst h2
      exact ⟨g, y, hg, h1, by simpa using h3⟩
    · rename_i l hne e
      simp at hr; subst hr
      obtain ⟨c, h1, h3⟩ := key e
      have : c.toArray.size ≠ 1 := by
        intro hs
        have hl : c.length = 1 := by simpa using hs
        have := h1.length
        rw [hl] at this
        match l, this with
        | [x], _ => exact hne x rfl
      rw [dif_neg this] at h3
      exact ⟨g, _, hg, ⟨c, h1, rfl⟩, h3⟩
    · simp at hr
  · simp at hr

/-- The arguments lie in the first temporaries. -/
theorem putAll_range {n : Nat} : ∀ {args : List AV} {s : Nat} {T T' : Tr AV}, n ≤ 1000000 → putAll T n (List.range' s args.length) args = some T' → ∀ t, tmp T' t = if s ≤ t ∧ t < s + args.length then (args[t - s]?).getD U else tmp T t
  | [], s, T, T', _, h, t => by
    simp [putAll] at h; subst h
    rw [if_neg (by simp)]
  | x :: l, s, T, T', hn, h, t => by
    simp only [List.length_cons, List.range'_succ, putAll] at h
    rw [cond_eq_ite] at h
    split at h
    · rename_i hlt
      have hlt' : s < n := by simpa [Nat.blt_eq] using hlt
      rw [putAll_range hn h t]
      by_cases e : t = s
      · subst e
        rw [if_neg (by omega), tmp_upd (by omega), if_pos rfl, if_pos (by simp)]
        simp
      · by_cases e2 : s + 1 ≤ t ∧ t < s + 1 + l.length
        · rw [if_pos e2, if_pos (by simp; omega)]
          rw [show t - s = (t - (s + 1)) + 1 by omega]
          simp
        · rw [if_neg e2, if_neg (by simp; omega), tmp_upd (by omega), if_neg e]
    · simp at h

theorem enter_sound (hE : E.Ok w0) {f : FuncId} {args : List AV} {cargs : List Value} (ha : VRs J args cargs) {kind : CallKind} {cs : List AFr} {s : ASt} (he : enterA E f args kind cs h = some s) :
    ∃ c a T g, E.P.funcs[f]? = some g ∧ s = ⟨⟨f, T, g.ntmps, [.code c], [], .run, kind, none⟩, cs, h⟩ ∧ TR J T g.ntmps a.tmps ∧ a.defers = [] ∧
      Frame.enter E.P f cargs.toArray kind = { (default : Frame) with fn := f, kind := kind }.at a [.code c] := by
  unfold enterA at he
  split at he
  · rename_i g hg
    split at he
    · rename_i c hc
      rw [cond_eq_ite] at he
      split at he
      · rename_i hle
        have hle' : args.length ≤ g.ntmps := by simpa using hle
        split at he
        · rename_i T hT
          simp at he; subst he
          have hn := hE.small f g hg
          refine ⟨c, ⟨cargs.toArray ++ Array.replicate (g.ntmps - cargs.toArray.size) undef, []⟩, T, g, hg, rfl, ⟨?_, hn, fun t _ => ?_⟩, rfl, ?_⟩
          · have := ha.length
            simp; omega
          · rw [List.range_eq_range'] at hT
            rw [putAll_range (T := .nil) (T' := T) hn hT t]
            have hl := ha.length
            by_cases e : t < args.length
            · rw [if_pos (by omega)]
              have hget : args[t]? = some args[t] := List.getElem?_eq_getElem e
              obtain ⟨y, hy, hv⟩ := ha.get t hget
              have e2 : (cargs.toArray ++ Array.replicate (g.ntmps - cargs.toArray.size) undef).getD t undef = y := by
                rw [Array.getD_eq_getD_getElem?, Array.getElem?_append, if_pos (by simp; omega)]
                simp [hy]
              rw [e2]
              simpa [hget] using hv
            · rw [if_neg (by omega)]
              have e1 : tmp (.nil : Tr AV) t = U := by unfold tmp; rw [Tr.find_nil]
              rw [e1]
              have e2 : (cargs.toArray ++ Array.replicate (g.ntmps - cargs.toArray.size) undef).getD t undef = undef := by
                rw [Array.getD_eq_getD_getElem?, Array.getElem?_append, if_neg (by simp; omega), Array.getElem?_replicate]
                split <;> rfl
              rw [e2]
              exact VR.vv _
          · simp [Frame.enter, Frame.at, hg, hc]
        · simp at he
      · simp at he
    · simp at he
  · simp at he

end
end Go.Ev
