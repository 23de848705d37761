/- A run of the evaluator that stops with a value is a call of the model that returns it, and nothing that was there has turned. Condition: what the evaluator is told is true. -/
import Derived.Test.YtoiclimflfdaeaaGreatDoorEvM10
set_option linter.unusedSimpArgs false
set_option linter.unusedVariables false
set_option linter.constructorNameAsVariable false
namespace Go.Ev
open Go.RowKit (Below)

/-- What a run that has stopped hands back. -/
def finalOf (E : Env) (f : FuncId) : RS → Option (AV × Hp)
  | .stop ⟨⟨fn, T, _, _, [], .returning, .normal, none⟩, [], h⟩ => bif fn.beq f then match resultOf E fn T h with
    | some v => some (v, h)
    | none => none
    else none
  | _ => none

/-- A call of a function, run. -/
def acall (E : Env) (f : FuncId) (args : List AV) (h : Hp) (k : Nat) : Option (AV × Hp) := match enterA E f args .normal [] h with
  | some s => finalOf E f (arun E k s)
  | none => none

theorem acall_sound {E : Env} {w0 : World} {J : Jn} {h : Hp} {w : World} (hE : E.Ok w0) (hm : E.more = false) {f : FuncId} {args : List AV} {cargs : List Value} (hh : HR w0 J h w) (hg : GlobOk E J) (ha : VRs J args cargs) {k : Nat} {v : AV} {h' : Hp}
    (hr : acall E f args h k = some (v, h')) : Calls E.P f cargs.toArray w fun e w' => ∃ J' c, e = .returned c ∧ VR J' v c ∧ HR w0 J' h' w' := by
  intro cs
  unfold acall at hr
  split at hr
  · rename_i s he
    obtain ⟨c, a, T, g, hgf, hs, ht, hd, hent⟩ := enter_sound (kind := .normal) hE ha he
    have hstart : SR E w0 cs s (lone (Frame.enter E.P f cargs.toArray .normal) cs w) := by
      subst hs
      rw [hent]
      exact ⟨J, w, _, cs, h.nx, rfl, hh, hg, Nat.le_refl _, rfl, rfl, rfl, .run rfl rfl hd (.plain ht ⟨[], rfl, rfl⟩), rfl⟩
    unfold finalOf at hr
    split at hr
    · rename_i x fn T' n' todo' h2 e
      rw [cond_eq_ite] at hr
      split at hr
      · rename_i hfn
        have hfn' := of_beq hfn
        subst hfn'
        split at hr
        · rename_i v' hv
          simp at hr
          obtain ⟨rfl, rfl⟩ := hr
          obtain ⟨m', p1, J', w', fr, fs, lo, rfl, hh', hg', _, _, _, _, htop, hcs⟩ := arun_sound hE hm k hstart (.inr e)
          cases htop with
          | @ret b a' k' hf hk ha' ht' =>
            obtain ⟨g', c', hgf', hvc, hrun⟩ := resultOf_sound hh' ht' hv
            have hcs' : fs = cs := hcs
            subst hcs'
            exact ⟨.returned c', w', _, ⟨J', c', rfl, hvc, hh'⟩, p1, by simpa [Frame.at] using hf, rfl, by simpa [Frame.at] using ha', by simpa [Frame.at] using hk, g', by simpa [Frame.at, hf] using hgf', by simpa [Frame.at] using hrun⟩
        · simp at hr
      · simp at hr
    · simp at hr
  · simp at hr

/-- Memory of which nothing is told. -/
def Hp.none : Hp := ⟨.nil, 0⟩

theorem HR.none (w0 : World) : HR w0 (fun _ => Option.none) Hp.none w0 :=
  ⟨by simp [Hp.none], fun b f o e => by simp [Hp.none, Tr.find_nil] at e, fun _ _ => rfl, fun b o e => by simp [Hp.none, Tr.find_nil] at e, fun b f o B K e => by simp [Hp.none, Tr.find_nil] at e,
    fun b b' f f' o o' B K K' e => by simp [Hp.none, Tr.find_nil] at e, fun b f o B K e => by simp [Hp.none, Tr.find_nil] at e, ⟨rfl, rfl, rfl, Nat.le_refl _, fun _ _ => rfl⟩⟩

/-- A call that looks at no memory of its caller's, and comes to a value that bears no address. -/
theorem acall_pure {E : Env} {w : World} (hE : E.Ok w) (hm : E.more = false) (hg : ∀ J, GlobOk E J) {f : FuncId} {args : List Value} {k : Nat} {v : Value} {h' : Hp}
    (hr : acall E f (args.map .v) Hp.none k = some (.v v, h')) : Calls E.P f args.toArray w fun e w' => e = .returned v ∧ Below w.heap.size w w' := by
  refine Calls.mono (acall_sound hE hm (HR.none w) (hg _) (VRs.map_v args) hr) ?_
  rintro e w' ⟨J', c, rfl, hv, hh⟩
  simp [VR] at hv
  exact ⟨by rw [hv], hh.below⟩
end Go.Ev
