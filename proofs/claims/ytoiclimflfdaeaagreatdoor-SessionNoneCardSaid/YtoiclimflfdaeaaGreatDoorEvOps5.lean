/- Operations of the evaluator come to what the model comes to (part 5). Condition: the memory is as the evaluator is told. -/
import Derived.Test.YtoiclimflfdaeaaGreatDoorEvOps4
set_option linter.unusedSimpArgs false
set_option linter.unusedVariables false
set_option linter.constructorNameAsVariable false
namespace Go.Ev
open Go.RowKit (Below)

section
variable {P : Program} {w0 : World} {J : Jn} {h h' : Hp} {w : World}

def OptR (J : Jn) (x : Option AV) (c : Option Value) : Prop := (x = none ∧ c = none) ∨ ∃ a b, x = some a ∧ c = some b ∧ VR J a b

/-- The bounds of a slice expression without a third index. -/
theorem bounds2 {isS : Bool} {len cap hh ll : Nat} {lo hi : Option AV} {clo chi : Option Value} (hlo : OptR J lo clo) (hhi : OptR J hi chi) (h1 : bound? hi cap len = some hh) (h2 : bound? lo hh 0 = some ll) :
    (Instr.sliceBounds isS len cap clo chi none).run P w = .ok (ll, hh, cap) w ∧ ll ≤ hh := by
  have a1 := bound_run (P := P) (w := w) hhi h1
  have a2 := bound_run (P := P) (w := w) hlo h2
  rcases a1 with ⟨rfl, rfl, rfl⟩ | ⟨bh, rfl, hle, hrun⟩
  · rcases a2 with ⟨rfl, rfl, rfl⟩ | ⟨bl, rfl, hle2, hrun2⟩
    · exact ⟨by simp [Instr.sliceBounds], Nat.zero_le _⟩
    · exact ⟨by simp [Instr.sliceBounds, hrun2], hle2⟩
  · rcases a2 with ⟨rfl, rfl, rfl⟩ | ⟨bl, rfl, hle2, hrun2⟩
    · exact ⟨by simp [Instr.sliceBounds, hrun], Nat.zero_le _⟩
    · exact ⟨by simp [Instr.sliceBounds, hrun, hrun2], hle2⟩

theorem bounds3 {isS : Bool} {len cap hh ll mm : Nat} {lo : Option AV} {hi mx : AV} {clo : Option Value} {chi cmx : Value} (hlo : OptR J lo clo) (hhi : VR J hi chi) (hmx : VR J mx cmx) (h0 : bound? (some mx) cap 0 = some mm)
    (h1 : bound? (some hi) mm 0 = some hh) (h2 : bound? lo hh 0 = some ll) :
    (Instr.sliceBounds isS len cap clo (some chi) (some cmx)).run P w = .ok (ll, hh, mm) w ∧ mm ≤ cap ∧ hh ≤ mm ∧ ll ≤ hh := by
  have a0 := bound_run (P := P) (w := w) (.inr ⟨mx, cmx, rfl, rfl, hmx⟩) h0
  have a1 := bound_run (P := P) (w := w) (.inr ⟨hi, chi, rfl, rfl, hhi⟩) h1
  have a2 := bound_run (P := P) (w := w) hlo h2
  rcases a0 with ⟨e, _⟩ | ⟨b0, e0, hle0, hrun0⟩
  · simp at e
  · simp at e0; subst e0
    rcases a1 with ⟨e, _⟩ | ⟨b1, e1, hle1, hrun1⟩
    · simp at e
    · simp at e1; subst e1
      rcases a2 with ⟨rfl, rfl, rfl⟩ | ⟨bl, rfl, hle2, hrun2⟩
      · exact ⟨by simp [Instr.sliceBounds, hrun0, hrun1], hle0, hle1, Nat.zero_le _⟩
      · exact ⟨by simp [Instr.sliceBounds, hrun0, hrun1, hrun2], hle0, hle1, hle2⟩

theorem OptR.some {mx : AV} {c : Option Value} (h : OptR J (some mx) c) : ∃ b, c = Option.some b ∧ VR J mx b := by
  rcases h with ⟨e, _⟩ | ⟨a, b, e, r, hv⟩
  · simp at e
  · simp at e; subst e; exact ⟨b, r, hv⟩
theorem OptR.none {c : Option Value} (h : OptR J Option.none c) : c = Option.none := by
  rcases h with ⟨_, e⟩ | ⟨a, b, e, r, hv⟩
  · exact e
  · simp at e

/-- The first known cells of a row fit into it. -/
theorem row_room {K sz : Nat} {l' tl : List Value} (h : (l' ++ tl).length = K * sz) : l'.length / sz ≤ K := by
  have : l'.length ≤ K * sz := by rw [← h]; simp
  exact Nat.div_le_of_le_mul (by rw [Nat.mul_comm]; exact this)

theorem bound_le {x : Option AV} {y d n : Nat} (hb : bound? x y d = some n) : n ≤ y ∨ n = d := by
  unfold bound? at hb
  split at hb
  · simp at hb; exact .inr hb.symm
  · split at hb
    · rw [cond_eq_ite] at hb
      split at hb
      · rename_i hle; simp at hle hb; subst hb; exact .inl hle
      · simp at hb
    · simp at hb

theorem bound_mono {x : Option AV} {y y' d n : Nat} (hb : bound? x y d = some n) (hy : y ≤ y') : bound? x y' d = some n := by
  unfold bound? at hb ⊢
  split at hb
  · exact hb
  · split at hb
    · rw [cond_eq_ite] at hb
      split at hb
      · rename_i hle
        simp at hle hb
        subst hb
        rw [cond_eq_ite, if_pos (by simp; omega)]
      · simp at hb
    · simp at hb

theorem slice_run (hr : HR w0 J h w) {t : TypeId} {x v : AV} {cx : Value} {lo hi mx : Option AV} {clo chi cmx : Option Value} (hx : VR J x cx) (hlo : OptR J lo clo) (hhi : OptR J hi chi) (hmx : OptR J mx cmx)
    (hm : slice1? P h t x lo hi mx = some v) : ∃ c, VR J v c ∧ (Instr.sliceAt t cx clo chi cmx).run P w = .ok c w := by
  unfold slice1? at hm
  split at hm
  · -- an empty slice at some place
    rename_i elem b hu
    split at hm
    · rename_i size n1 n2 hsz hh1 hh2
      obtain rfl := hmx.none
      simp at hm; subst hm
      obtain ⟨B, K, off, cap, e, rfl⟩ := hx
      have e1 : n1 = 0 := by rcases bound_le hh1 with h | h <;> omega
      have e2 : n2 = 0 := by rcases bound_le hh2 with h | h <;> omega
      subst e1 e2
      obtain ⟨hrun, _⟩ := bounds2 (P := P) (w := w) (isS := true) hlo hhi (bound_mono hh1 (Nat.zero_le cap)) hh2
      refine ⟨.slice (some (if cap = 0 then ⟨B, off, none⟩ else Addr.add ⟨B, off, none⟩ (0 * size))) 0 cap, ?_, ?_⟩
      · refine ⟨B, K, off, cap, e, ?_⟩
        rw [addr_add]; simp
      · by_cases hc : cap = 0
        · subst hc; simp [Instr.sliceAt, run_und w hu, Instr.slice, hrun, run_size w hsz]
        · simp [Instr.sliceAt, run_und w hu, Instr.slice, hrun, run_size w hsz, hc]
    · simp at hm
  · rename_i x elem hu hne
    split at hm
    · rename_i size hsz hs
      have := slice_none hx hs; subst this
      split at hm
      · rename_i n1 n2 hh1 hh2
        obtain rfl := hmx.none
        simp at hm; subst hm
        have e1 : n1 = 0 := by rcases bound_le hh1 with h | h <;> omega
        have e2 : n2 = 0 := by rcases bound_le hh2 with h | h <;> omega
        subst e1 e2
        obtain ⟨hrun, _⟩ := bounds2 (P := P) (w := w) (isS := true) hlo hhi hh1 hh2
        exact ⟨_, VR.vv _, by simp [Instr.sliceAt, run_und w hu, Instr.slice, hrun, run_size w hsz]⟩
      · simp at hm
    · rename_i size s hsz hs
      obtain ⟨B, K, hJ, hcs, hoff⟩ := slice_some hx hs
      rw [cond_eq_ite] at hm
      split at hm
      · rename_i hu1
        rw [hu1, if_pos rfl] at hcs
        have hoff := hoff hu1
        split at hm
        · rename_i l e sz mk hg
          obtain ⟨B', K', hJ', l', tl, fz, hv, hw, hlen, _⟩ := hr.get hg
          rw [hJ] at hJ'; simp at hJ'; obtain ⟨rfl, rfl⟩ := hJ'
          rw [cond_eq_ite] at hm
          split at hm
          · rename_i hcond
            simp at hcond
            obtain ⟨⟨hszz, hssz⟩, hpos⟩ := hcond
            subst hszz
            have hroom := row_room hlen
            rw [hv.length] at hroom
            split at hm
            · obtain rfl := hmx.none
              split at hm
              · rename_i hh h1
                split at hm
                · rename_i ll h2
                  obtain ⟨hrun, hle⟩ := bounds2 (P := P) (w := w) (isS := true) hlo hhi (bound_mono h1 (by omega : l.length / sz - s.cap ≤ K - s.cap)) h2
                  have hfull : (Instr.sliceAt t cx clo chi none).run P w = .ok (.slice (some (if K - s.cap = ll then ⟨B, s.off, none⟩ else Addr.add ⟨B, s.off, none⟩ (ll * sz))) (hh - ll) (K - s.cap - ll)) w := by
                    rw [hcs]
                    (simp [Instr.sliceAt, run_und w hu, Instr.slice, hrun, run_size w hsz, addr_add, cond_eq_ite]; try (split <;> simp_all))
                  rw [cond_eq_ite] at hm
                  split at hm
                  · rename_i hcase
                    simp at hm; subst hm
                    refine ⟨_, ⟨B, K, hJ, ?_⟩, hfull⟩
                    simp at hcase
                    rw [addr_add, hoff, hssz]
                    rcases hcase with h0 | h0
                    · subst h0; simp
                    · rw [if_neg (by omega), Nat.add_mul, Nat.sub_sub]
                  · rw [cond_eq_ite] at hm
                    split at hm
                    · rename_i heq
                      simp at heq hm; subst hm heq
                      refine ⟨_, ?_, hfull⟩
                      rw [addr_add]
                      by_cases hc : K - s.cap = ll
                      · exact ⟨B, K, s.off, _, hJ, by simp [hc]; rfl⟩
                      · exact ⟨B, K, s.off + ll * sz, _, hJ, by simp [hc]; rfl⟩
                    · simp at hm
                · simp at hm
              · simp at hm
            · rename_i m
              obtain ⟨cm, rfl, hmv⟩ := hmx.some
              split at hm
              · rename_i hi0 mm h0
                obtain ⟨ch, rfl, hhv⟩ := hhi.some
                split at hm
                · rename_i hh h1
                  split at hm
                  · rename_i ll h2
                    simp at hm; subst hm
                    obtain ⟨hrun, _⟩ := bounds3 (P := P) (w := w) (isS := true) (len := s.len) (cap := K - s.cap) hlo hhv hmv (bound_mono h0 (by omega : l.length / sz - s.cap ≤ K - s.cap)) h1 h2
                    refine ⟨_, ⟨B, K, hJ, rfl⟩, ?_⟩
                    rw [hcs]
                    (simp [Instr.sliceAt, run_und w hu, Instr.slice, hrun, run_size w hsz, addr_add, cond_eq_ite]; try (split <;> simp_all))
                  · simp at hm
                · simp at hm
              · simp at hm
          · simp at hm
        · simp at hm
      · rename_i hu1
        simp at hu1
        rw [hu1] at hcs
        simp only [Bool.false_eq_true, if_false] at hcs
        split at hm
        · obtain rfl := hmx.none
          split at hm
          · rename_i hh h1
            split at hm
            · rename_i ll h2
              simp at hm; subst hm
              obtain ⟨hrun, _⟩ := bounds2 (P := P) (w := w) (isS := true) hlo hhi h1 h2
              refine ⟨_, ⟨B, K, hJ, rfl⟩, ?_⟩
              rw [hcs]
              (simp [Instr.sliceAt, run_und w hu, Instr.slice, hrun, run_size w hsz, addr_add, cond_eq_ite]; try (split <;> simp_all))
            · simp at hm
          · simp at hm
        · rename_i m
          obtain ⟨cm, rfl, hmv⟩ := hmx.some
          split at hm
          · rename_i hi0 mm h0
            obtain ⟨ch, rfl, hhv⟩ := hhi.some
            split at hm
            · rename_i hh h1
              split at hm
              · rename_i ll h2
                simp at hm; subst hm
                obtain ⟨hrun, _⟩ := bounds3 (P := P) (w := w) (isS := true) (len := s.len) (cap := s.cap) hlo hhv hmv h0 h1 h2
                refine ⟨_, ⟨B, K, hJ, rfl⟩, ?_⟩
                rw [hcs]
                (simp [Instr.sliceAt, run_und w hu, Instr.slice, hrun, run_size w hsz, addr_add, cond_eq_ite]; try (split <;> simp_all))
              · simp at hm
            · simp at hm
          · simp at hm
    · simp at hm
  · rename_i n elem b off hu
    split at hm
    · rename_i size hh hsz h1
      obtain rfl := hmx.none
      split at hm
      · rename_i ll h2
        simp at hm; subst hm
        obtain ⟨B, K, e, rfl⟩ := hx
        obtain ⟨hrun, _⟩ := bounds2 (P := P) (w := w) (isS := false) hlo hhi h1 h2
        refine ⟨_, ⟨B, K, e, rfl⟩, ?_⟩
        (simp [Instr.sliceAt, run_und w hu, Instr.sureAddr, hrun, run_size w hsz, addr_add, cond_eq_ite]; try (split <;> simp_all))
      · simp at hm
    · simp at hm
  · rename_i arr b off hu
    split at hm
    · rename_i n elem hua
      split at hm
      · rename_i size hh hsz h1
        obtain rfl := hmx.none
        split at hm
        · rename_i ll h2
          simp at hm; subst hm
          obtain ⟨B, K, e, rfl⟩ := hx
          obtain ⟨hrun, _⟩ := bounds2 (P := P) (w := w) (isS := false) hlo hhi h1 h2
          refine ⟨_, ⟨B, K, e, rfl⟩, ?_⟩
          (simp [Instr.sliceAt, run_und w hu, Instr.slice, asAddr, run_und w hua, hrun, run_size w hsz, addr_add, cond_eq_ite]; try (split <;> simp_all))
        · simp at hm
      · simp at hm
    · simp at hm
  · simp at hm

end
end Go.Ev
