/- Operations of the evaluator come to what the model comes to (part 6). Condition: the memory is as the evaluator is told. -/
import Derived.Test.YtoiclimflfdaeaaGreatDoorEvOps5
set_option linter.unusedSimpArgs false
set_option linter.unusedVariables false
set_option linter.constructorNameAsVariable false
namespace Go.Ev
open Go.RowKit (Below)

def PR (J : Jn) : List (Nat × AV) → List (Nat × Value) → Prop
  | [], c => c = []
  | (i, x) :: l, c => ∃ y m, VR J x y ∧ PR J l m ∧ c = (i, y) :: m

theorem PR.mono {J J' : Jn} (h : Jext J J') : ∀ {l c}, PR J l c → PR J' l c
  | [], _, hv => by simpa [PR] using hv
  | (_, _) :: _, _, ⟨y, m, h1, h2, r⟩ => ⟨y, m, h1.mono h, PR.mono h h2, r⟩

theorem foldl_zip (off : Nat) : ∀ (vs : List Value) (k : Nat) (cs : List Value), off + k + vs.length ≤ cs.length →
    (vs.zipIdx k).foldl (fun (cs : Array Value) (p : Value × Nat) => cs.setIfInBounds (off + p.2) p.1) cs.toArray = (cs.take (off + k) ++ vs ++ cs.drop (off + k + vs.length)).toArray
  | [], k, cs, _ => by simp
  | v :: vs, k, cs, h => by
    simp only [List.length_cons] at h
    have ih := foldl_zip off vs (k + 1) (cs.set (off + k) v) (by simp; omega)
    simp only [List.zipIdx_cons, List.foldl_cons, List.setIfInBounds_toArray]
    rw [ih]
    have := list_seg_step cs (off + k) v vs (by omega)
    rw [show off + (k + 1) = off + k + 1 by omega, this]
    simp [Nat.add_assoc]

theorem fill_sound {J : Jn} {place : Nat → Option (Nat × Nat)} : ∀ {parts : List (Nat × AV)} {cparts : List (Nat × Value)} {cells r : List AV} {cs : List Value}, PR J parts cparts → VRs J cells cs → fill? place cells parts = some r →
    ∃ r', VRs J r r' ∧ Instr.fill place cs.toArray cparts = some r'.toArray
  | [], _, _, _, cs, hp, hc, hf => by
    simp [PR] at hp; subst hp
    simp [fill?] at hf; subst hf
    exact ⟨cs, hc, rfl⟩
  | (i, x) :: rest, _, cells, r, cs, ⟨y, m, h1, h2, rfl⟩, hc, hf => by
    simp only [fill?] at hf
    split at hf
    · rename_i off size hpl
      rw [cond_eq_ite] at hf
      split at hf
      · rename_i hsz
        have hsz := of_beq hsz
        split at hf
        · rename_i cells2 hs
          obtain ⟨hle, rfl⟩ := splice_eq hs
          have hrel := cells_rel h1
          have hl := hrel.length
          have hcl := hc.length
          have hnew : VRs J (cells.take off ++ x.cells ++ cells.drop (off + x.cells.length)) (cs.take off ++ y.cells.toList ++ cs.drop (off + y.cells.toList.length)) := by
            rw [hl]; exact ((hc.take off).append hrel).append (hc.drop _)
          obtain ⟨r', hr', hfill⟩ := fill_sound h2 hnew hf
          refine ⟨r', hr', ?_⟩
          have hys : y.cells.size = size := by rw [← hsz, ← hl]; simp
          have hb : ¬ off + y.cells.size > cs.toArray.size := by rw [hys, ← hsz]; simp; omega
          have hfold : y.cells.zipIdx.foldl (fun cs (c, j) => cs.setIfInBounds (off + j) c) cs.toArray = (cs.take off ++ y.cells.toList ++ cs.drop (off + y.cells.toList.length)).toArray := by
            have := foldl_zip off y.cells.toList 0 cs (by rw [hl]; omega)
            rw [← Array.foldl_toList, Array.toList_zipIdx]
            simpa using this
          simp only [Instr.fill, hpl, hys]
          rw [if_neg (by simp; rw [← hsz]; omega), hfold]
          exact hfill
        · simp at hf
      · simp at hf
    · simp at hf

section
variable {P : Program} {w0 : World} {J : Jn} {h h' : Hp} {w : World}

theorem places_run (w : World) : ∀ {fs : List Field} {ps : List (Nat × Nat)}, places? P fs = some ps → (fs.mapM fun f => (do pure (f.offset, ← sizeOf f.type) : Sem (Nat × Nat))).run P w = .ok ps w
  | [], ps, h => by simp [places?] at h; subst h; simp
  | f :: fs, ps, h => by
    simp only [places?] at h
    split at h
    · rename_i n r hn hr
      simp at h; subst h
      have ih := places_run w hr
      rw [List.mapM_cons]
      simp only [Sem.run_bind, run_size w hn, Result.andThen_ok, Sem.run_pure, ih]
    · simp at h

theorem build_sound {t : TypeId} {parts : List (Nat × AV)} {cparts : List (Nat × Value)} {v : AV} (hp : PR J parts cparts) (hm : build? P t parts = some v) :
    ∃ c, VR J v c ∧ (Instr.build t cparts.toArray).run P w = .ok c w := by
  unfold build? at hm
  split at hm
  · rename_i z fs hz hu
    split at hm
    · rename_i ps hps
      split at hm
      · rename_i l hf
        simp at hm; subst hm
        obtain ⟨r', hr', hfill⟩ := fill_sound (place := fun i => ps[i]?) hp (zcells J z) hf
        refine ⟨.agg r'.toArray, ⟨r', hr', rfl⟩, ?_⟩
        have hpl := places_run (P := P) w hps
        have hm : (fs.mapM fun f => (do pure (f.offset, ← sizeOf f.type) : Sem (Nat × Nat))).run P w = .ok ps.toArray w := by
          rw [Array.mapM_eq_mapM_toList, Sem.run_map, hpl]; rfl
        simp only [Instr.build, Sem.run_bind, run_zero w hz, Result.andThen_ok, run_und w hu] at hm ⊢
        rw [hm]
        simp at hfill
        simp [hfill]
      · simp at hm
    · simp at hm
  · rename_i z n elem hz hu
    split at hm
    · rename_i size hsz
      split at hm
      · rename_i l hf
        simp at hm; subst hm
        obtain ⟨r', hr', hfill⟩ := fill_sound (place := fun i => some (i * size, size)) hp (zcells J z) hf
        refine ⟨.agg r'.toArray, ⟨r', hr', rfl⟩, ?_⟩
        simp at hfill
        simp [Instr.build, run_zero w hz, run_und w hu, run_size w hsz, hfill]
      · simp at hm
    · simp at hm
  · simp at hm

theorem buildSlice_sound (hr : HR w0 J h w) {t : TypeId} {n : Nat} {parts : List (Nat × AV)} {cparts : List (Nat × Value)} {v : AV} (hp : PR J parts cparts) (hm : buildSlice? P h t n parts = some (v, h')) :
    ∃ J' w' c, Jgr h.nx J J' ∧ HR w0 J' h' w' ∧ VR J' v c ∧ (Instr.buildSlice t n cparts.toArray).run P w = .ok c w' := by
  unfold buildSlice? at hm
  split at hm
  · rename_i elem hu
    split at hm
    · rename_i size hsz
      rw [cond_eq_ite] at hm
      split at hm
      · rename_i hle
        simp at hle
        split at hm
        · rename_i z hz
          split at hm
          · rename_i l hf
            rw [cond_eq_ite] at hm
            split at hm
            · rename_i hcond
              simp at hcond
              split at hm
              · rename_i b h2 hn
                simp at hm
                obtain ⟨rfl, rfl⟩ := hm
                have hzl : z.cells.size = size := by
                  have := (zcells J z).length; simp at this; omega
                have hstart : VRs J (bif (n * size).beq 0 then [] else repl n ((AV.v z).cells)) (if n * size = 0 then [] else repl n z.cells.toList) := by
                  rw [cond_eq_ite]
                  by_cases h0 : n * size = 0
                  · rw [if_pos (beq_t h0), if_pos h0]; exact VRs.nil
                  · rw [if_neg (fun e => h0 (of_beq e)), if_neg h0]; exact repl_VRs (zcells J z) n
                obtain ⟨r', hr', hfill⟩ := fill_sound (place := fun i => some (i * size, size)) hp hstart hf
                obtain ⟨J', hext, hr2, hb⟩ := hr.newObj hn (.cells r'.toArray elem) 0 (fun J' hJ => ⟨r', hr'.mono hJ, by simp⟩)
                refine ⟨J', _, _, hext, hr2, ⟨_, _, hb, rfl⟩, ?_⟩
                have h24 : ¬ n * size > 2 ^ 24 := by omega
                simp only [Instr.buildSlice, Sem.run_bind, run_und w hu, Result.andThen_ok, run_size w hsz, h24, if_false, Sem.run_ite, Sem.run_pure]
                by_cases h0 : n * size = 0
                · have e0 : Array.range 0 = #[] := by apply Array.ext'; simp
                  rw [if_pos h0] at hfill
                  simp [h0, e0, hfill, newRow]
                · have harr : (Array.range (n * size)).map (fun i => z.cells[i % z.cells.size]!) = (repl n z.cells.toList).toArray := by
                    apply Array.ext'
                    rw [← hzl, range_map_repl]
                  rw [if_neg h0] at hfill
                  simp only [h0, if_false, run_zero w hz, Result.andThen_ok, harr, hfill]
                  simp [newRow]
              · simp at hm
            · simp at hm
          · simp at hm
        · simp at hm
      · simp at hm
    · simp at hm
  · simp at hm

theorem appended_prefix (hr : HR w0 J h w) {x : AV} {cx : Value} {size n k : Nat} {new : List AV} (hx : VR J x cx) (ha : appended? h size x = some (new, n)) (hk : k ≤ n) :
    ∃ vs, VRs J (new.take (k * size)) vs ∧ (Builtin.firstCells size k cx).run P w = .ok vs.toArray w := by
  unfold appended? at ha
  split at ha
  · obtain ⟨B, K, o, cp, e, rfl⟩ := hx
    simp at ha
    obtain ⟨rfl, rfl⟩ := ha
    have : k = 0 := by omega
    subst this
    exact ⟨[], by simp [VRs], by simp [Builtin.firstCells, loadCells, loadCellsFrom]⟩
  · rename_i s
    simp [VR] at hx; subst hx
    rw [cond_eq_ite] at ha
    split at ha
    · rename_i h1
      have h1 := of_beq h1
      subst h1
      simp at ha
      obtain ⟨rfl, rfl⟩ := ha
      obtain ⟨⟨l⟩⟩ := s
      refine ⟨(l.take k).map fun b => .int .u8 b.toNat, ?_, ?_⟩
      · have := VRs.map_v (J := J) ((l.take k).map fun b => Value.int .u8 b.toNat)
        simpa [Function.comp_def, List.map_take] using this
      · simp only [Builtin.firstCells, ByteArray.extract_mk, Sem.run_pure]
        simp
    · simp at ha
  · split at ha
    · rename_i hs
      have := slice_none hx hs
      subst this
      simp at ha
      obtain ⟨rfl, rfl⟩ := ha
      exact ⟨[], by simp [VRs], by simp [Builtin.firstCells]⟩
    · rename_i sv hs
      obtain ⟨B, K, hJ, rfl, _⟩ := slice_some hx hs
      split at ha
      · rename_i l hc
        split at ha
        · rename_i r hsg
          simp at ha
          obtain ⟨rfl, rfl⟩ := ha
          obtain ⟨B', K', l', tl, e, fz, hJ', hv, hw⟩ := hr.cells hc
          rw [hJ] at hJ'; simp at hJ'; obtain ⟨rfl, rfl⟩ := hJ'
          have hb := (seg_eq hsg).2
          rw [← hv.length] at hb
          have hkm : k * size ≤ sv.len * size := Nat.mul_le_mul_right _ hk
          have hrun := run_loads (P := P) (off := sv.off) (n := k * size) hw (by omega)
          refine ⟨(l'.drop sv.off).take (k * size), ?_, by simp only [Builtin.firstCells]; exact hrun⟩
          have := (hv.seg hsg).take (k * size)
          rwa [List.take_take, Nat.min_eq_left hkm] at this
        · simp at ha
      · simp at ha
    · simp at ha

theorem copy_sound (hr : HR w0 J h w) {ats : Array TypeId} (ty : TypeId) {args : List AV} {cargs : List Value} {v : AV} (ha : VRs J args cargs) (hl : copy? P h ats args = some (v, h')) :
    ∃ w' c, HR w0 J h' w' ∧ VR J v c ∧ (Builtin.copy_ ats ty cargs.toArray).run P w = .ok c w' := by
  unfold copy? at hl
  split at hl
  · rename_i dt d x h0
    obtain ⟨cd, m1, hd, ⟨cx, m2, hx, hnil, rfl⟩, rfl⟩ := ha
    simp [VRs] at hnil; subst hnil
    split at hl
    · rename_i elem hu
      split at hl
      · rename_i size hsz
        split at hl
        · rename_i cs m hap
          obtain ⟨_, _, hlen, _, _⟩ := appended_sound (P := P) hr hx hap
          split at hl
          · rename_i hdn
            have := slice_none hd hdn; subst this
            simp at hl
            obtain ⟨rfl, rfl⟩ := hl
            obtain ⟨vs, _, hf0⟩ := appended_prefix (P := P) (k := 0) hr hx hap (Nat.zero_le _)
            refine ⟨w, _, hr, VR.vv _, ?_⟩
            simp [Builtin.copy_, h0, run_und w hu, hlen, run_size w hsz, hf0, goInt]
          · rename_i sv hds
            obtain ⟨B, K, hJ, rfl, _⟩ := slice_some hd hds
            dsimp only at hl
            split at hl
            · rename_i r l htk hc
              rw [cond_eq_ite] at hl
              split at hl
              · rename_i hcell
                split at hl
                · rename_i l2 hsp
                  split at hl
                  · rename_i h2 hset
                    simp at hl
                    obtain ⟨rfl, rfl⟩ := hl
                    obtain ⟨rfl, _⟩ := takeN_eq htk
                    obtain ⟨vs, hvs, hfirst⟩ := appended_prefix (P := P) (k := Nat.min m sv.len) hr hx hap (Nat.min_le_left _ _)
                    obtain ⟨B', K', w', hJ', hst, hr'⟩ := hr.splice (P := P) hc hvs hcell hsp hset
                    rw [hJ] at hJ'; simp at hJ'; obtain ⟨rfl, rfl⟩ := hJ'
                    refine ⟨w', _, hr', VR.vv _, ?_⟩
                    simp only [Builtin.copy_, h0, List.getElem?_toArray, List.getElem?_cons_zero, List.getElem?_cons_succ, Sem.run_bind, run_und w hu, Result.andThen_ok, hlen, run_size w hsz, hfirst, hst, Sem.run_pure]
                    simp [goInt]
                  · simp at hl
                · simp at hl
              · simp at hl
            · simp at hl
          · simp at hl
        · simp at hl
      · simp at hl
    · simp at hl
  · simp at hl

end
end Go.Ev
