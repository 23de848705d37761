/- Operations of the evaluator come to what the model comes to (part 3). Condition: the memory is as the evaluator is told. -/
import Derived.Test.YtoiclimflfdaeaaGreatDoorEvOps2
set_option linter.unusedSimpArgs false
set_option linter.unusedVariables false
set_option linter.constructorNameAsVariable false
namespace Go.Ev
open Go.RowKit (Below)

theorem push_get (w : World) (o : Obj) : ({ w with heap := w.heap.push o } : World).heap[w.heap.size]? = some o := by simp

theorem run_append_in {P : Program} {w w' : World} {ats : Array TypeId} {ty st xt elem : TypeId} {xd : TypeDesc} {cs cx : Value} {base : Option Addr} {sLen sCap size n : Nat} {vs : List Value}
    (h0 : ats[0]? = some st) (h1 : ats[1]? = some xt) (hu : P.underlying st = some (.slice elem)) (hxu : P.underlying xt = some xd) (hx : ∀ k, xd ≠ .int k) (hs : sizeOf? P elem = some size)
    (hcs : cs = .slice base sLen sCap) (hl : (Builtin.lenOf cx).run P w = .ok n w) (hf : (Builtin.firstCells size n cx).run P w = .ok vs.toArray w) (hle : sLen + n ≤ sCap)
    (hst : ∀ a, base = some a → (storeCells (a.add (sLen * size)) vs).run P w = .ok () w') (hno : base = none → w' = w) :
    (Builtin.append_ ats ty #[cs, cx]).run P w = .ok (.slice base (sLen + n) sCap) w' := by
  subst hcs
  cases base with
  | none =>
    rw [hno rfl]
    cases xd <;> first
      | exact (hx _ rfl).elim
      | simp only [Builtin.append_, h0, h1, List.getElem?_toArray, List.getElem?_cons_zero, List.getElem?_cons_succ, Sem.run_bind, run_und w hu, run_und w hxu, Result.andThen_ok, run_size w hs, Bool.false_eq_true, if_false, hl, hle, if_true,
      Sem.run_ite, Bool.not_false, hf, Sem.run_pure]
  | some a =>
    have hst := hst a rfl
    cases xd <;> first
      | exact (hx _ rfl).elim
      | simp only [Builtin.append_, h0, h1, List.getElem?_toArray, List.getElem?_cons_zero, List.getElem?_cons_succ, Sem.run_bind, run_und w hu, run_und w hxu, Result.andThen_ok, run_size w hs, Bool.false_eq_true, if_false, hl, hle, if_true,
      Sem.run_ite, Bool.not_false, hf, Sem.run_pure, hst]

theorem run_append_out {P : Program} {w : World} {ats : Array TypeId} {ty st xt elem : TypeId} {xd : TypeDesc} {cs cx z : Value} {base : Option Addr} {sLen sCap size bytes n : Nat} {old vs : List Value}
    (h0 : ats[0]? = some st) (h1 : ats[1]? = some xt) (hu : P.underlying st = some (.slice elem)) (hxu : P.underlying xt = some xd) (hx : ∀ k, xd ≠ .int k) (hs : sizeOf? P elem = some size)
    (hb : bytesOf? P elem = some bytes) (hz0 : zero? P elem = some z)
    (hcs : cs = .slice base sLen sCap) (hl : (Builtin.lenOf cx).run P w = .ok n w) (hf : (Builtin.firstCells size n cx).run P w.drew = .ok vs.toArray w.drew) (hle : ¬ sLen + n ≤ sCap)
    (hold : (Builtin.firstCells size sLen cs).run P w.drew = .ok old.toArray w.drew) (hbp : 0 < bytes) (hcap : Builtin.nextslicecap (sLen + n) sCap * bytes ≤ 2 ^ 48) :
    ∃ nc, sLen + n ≤ nc ∧ (Builtin.append_ ats ty #[cs, cx]).run P w = .ok (.slice (some ⟨w.heap.size, 0, none⟩) (sLen + n) nc)
      { w.drew with heap := w.heap.push (.cells (old ++ vs ++ (repl (nc - (sLen + n)) z.cells.toList)).toArray elem) } := by
  subst hcs
  obtain ⟨i, hi, hib⟩ := run_bytes w hb
  obtain ⟨i', hi', hib'⟩ := run_bytes w.drew hb
  refine ⟨sLen + n + (w.tape w.drawn (.appendCap (sLen + n) sCap elem)) % (2 ^ 63 - (sLen + n)), Nat.le_add_right _ _, ?_⟩
  have hch : (choose (.appendCap (sLen + n) sCap elem)).run P w = .ok (sLen + n + (w.tape w.drawn (.appendCap (sLen + n) sCap elem)) % (2 ^ 63 - (sLen + n))) w.drew := by
    simp [run_choose, Question.forced, Question.cut]
  generalize hnc : sLen + n + (w.tape w.drawn (.appendCap (sLen + n) sCap elem)) % (2 ^ 63 - (sLen + n)) = nc at hch ⊢
  have hzc : (Builtin.zeroCells z.cells (nc - (sLen + n))) = (repl (nc - (sLen + n)) z.cells.toList).toArray := by
    apply Array.ext'
    unfold Builtin.zeroCells
    rw [range_map_repl]
  have hb0 : ¬ bytes = 0 := by omega
  have hcap' : ¬ (2 ^ 48 < Builtin.nextslicecap (sLen + n) sCap * i.bytes) := by rw [hib]; omega
  have hbi : ¬ i.bytes = 0 := by rw [hib]; exact hb0
  cases xd <;> first
    | exact (hx _ rfl).elim
    | (simp only [Builtin.append_, h0, h1, List.getElem?_toArray, List.getElem?_cons_zero, List.getElem?_cons_succ, Sem.run_bind, run_und w hu, run_und w hxu, Result.andThen_ok, run_size w hs, Bool.false_eq_true, if_false, hl, hle,
        false_or, hi, hbi, and_false, GT.gt, hcap', Sem.run_pure, Sem.run_ite, if_false, hch, run_askRoom, hold, hf, Bool.not_false, if_true, run_zero _ hz0, hi', newRow, run_newObj, hzc]
       simp; rfl)

theorem jgr_new {J : Jn} {h h' : Hp} {o : AObj} {b : Nat} {x : Nat × Nat} (hn : h.new o = some (b, h')) (he : Jext J (Jset J b x)) : Jgr h.nx J (Jset J b x) := by
  obtain ⟨rfl, _, _⟩ := new_eq hn
  exact Jgr.set he

theorem jgr_drop {J : Jn} {h h' : Hp} {o : AObj} {b c : Nat} {x : Nat × Nat} (hn : (h.drop c).new o = some (b, h')) (he : Jext J (Jset J b x)) : Jgr h.nx J (Jset J b x) := jgr_new (h := h.drop c) hn he

theorem append_sound {P : Program} {w0 : World} {J : Jn} {h h' : Hp} {w : World} (hr : HR w0 J h w) {ats : Array TypeId} (ty : TypeId) {args : List AV} {cargs : List Value} {v : AV}
    (ha : VRs J args cargs) (hl : append? P h ats args = some (v, h')) :
    ∃ J' w' c, Jgr h.nx J J' ∧ HR w0 J' h' w' ∧ VR J' v c ∧ (Builtin.append_ ats ty cargs.toArray).run P w = .ok c w' := by
  unfold append? at hl
  split at hl
  · rename_i st xt s x h0 h1
    obtain ⟨cs, m1, hs, ⟨cx, m2, hx, hnil, rfl⟩, rfl⟩ := ha
    simp [VRs] at hnil; subst hnil
    split at hl
    · rename_i elem xd hu hxu
      split at hl
      · rename_i size bytes z hsz hby hze hint
        have hxi : ∀ k, xd ≠ .int k := by
          intro k e; subst e; simp at hint
        split at hl
        · rename_i new n hap
          have hr1 : HR w0 J h w.drew := hr.drawn rfl rfl rfl rfl
          obtain ⟨vs, hvs, hlen, hfirst, hvl⟩ := appended_sound (P := P) hr hx hap
          obtain ⟨vs1, hvs1, _, hfirst1, hvl1⟩ := appended_sound (P := P) hr1 hx hap
          split at hl
          · rename_i hsn
            have := slice_none hs hsn; subst this
            rw [cond_eq_ite] at hl
            split at hl
            · rename_i hn0
              have hn0 := of_beq hn0
              subst hn0
              simp at hl
              obtain ⟨rfl, rfl⟩ := hl
              refine ⟨J, w, .slice none 0 0, Jgr.refl _ J, hr, VR.vv _, ?_⟩
              have := run_append_in (P := P) (ty := ty) h0 h1 hu hxu hxi hsz (rfl : Value.slice none 0 0 = _) hlen hfirst (by omega) (w' := w) (by simp) (fun _ => rfl)
              simpa using this
            · rename_i hn0
              have hn0' : n ≠ 0 := fun e => hn0 (beq_t e)
              rw [cond_eq_ite] at hl
              split at hl
              · rename_i hcond
                simp at hcond
                obtain ⟨⟨⟨hbd, hcell⟩, hbp⟩, hzl⟩ := hcond
                split at hl
                · rename_i b h2 hn
                  simp at hl
                  obtain ⟨rfl, rfl⟩ := hl
                  have hnb := nextcap_le (need := 0 + n) (cap := 0) (by omega)
                  obtain ⟨nc, hnc, hrun⟩ := run_append_out (P := P) (ty := ty) (old := []) h0 h1 hu hxu hxi hsz hby hze (rfl : Value.slice none 0 0 = _) hlen hfirst1 (by omega)
                    (by simp [Builtin.firstCells]) hbp (by
                      have : Builtin.nextslicecap (0 + n) 0 * bytes ≤ nextBound (0 + n) * bytes := Nat.mul_le_mul_right _ hnb
                      simp at this hbd ⊢; omega)
                  have hzl' : z.cells.toList.length = size := (zcells J z).length.trans hzl
                  obtain ⟨hr2, hext⟩ := hr1.new hn (.cells (([] : List Value) ++ vs1 ++ (repl (nc - (0 + n)) z.cells.toList)).toArray elem) nc ⟨vs1, repl (nc - (0 + n)) z.cells.toList, (0, 0), hvs1.mono (Jset.ext (by
                    obtain ⟨rfl, _, _⟩ := new_eq hn; exact hr.fr _ (Nat.le_refl _))), push_get w.drew _, by
                      rw [List.length_append, repl_length, hvl1, hzl', ← Nat.add_mul]; congr 1; omega, fun _ => rfl⟩
                  refine ⟨_, _, .slice (some ⟨w.heap.size, 0, none⟩) (0 + n) nc, jgr_new hn hext, hr2, ⟨w.heap.size, nc, by simp [Jset], by simp⟩, hrun⟩
                · simp at hl
              · simp at hl
          · rename_i sv hss
            obtain ⟨B, K, hJ, hcs, hoff⟩ := slice_some hs hss
            rw [cond_eq_ite] at hl
            split at hl
            · rename_i hcond
              simp at hcond
              obtain ⟨⟨⟨hbd, hcell⟩, hbp⟩, hzl⟩ := hcond
              have hzl' : z.cells.toList.length = size := (zcells J z).length.trans hzl
              rw [cond_eq_ite] at hl
              split at hl
              · rename_i hu1
                split at hl
                · rename_i l e sz hg
                  rw [cond_eq_ite] at hl
                  split at hl
                  · rename_i hc2
                    simp at hc2
                    obtain ⟨⟨⟨hcap0, hssz⟩, hszz⟩, hee⟩ := hc2
                    split at hl
                    · rename_i old hold
                      split at hl
                      · rename_i b h2 hn
                        simp at hl
                        obtain ⟨rfl, rfl⟩ := hl
                        obtain ⟨B', K', hJ', l', tl, fz, hv, hw, hlen2, hfz⟩ := hr.get hg
                        rw [hJ] at hJ'; simp at hJ'; obtain ⟨rfl, rfl⟩ := hJ'
                        have hfz := hfz rfl
                        subst hfz
                        have hoff0 : sv.off = 0 := by rw [hoff hu1, hcap0]; simp
                        rw [hu1, if_pos rfl, hcap0, hoff0] at hcs
                        have hob := (seg_eq hold).2
                        rw [← hv.length] at hob
                        have hob' : sv.len * size ≤ l'.length := by omega
                        have holdr : VRs J old (l'.take (sv.len * size)) := by simpa using hv.seg hold
                        by_cases hle : sv.len + n ≤ K
                        · -- in place
                          have hbig : sv.len * size + vs.length ≤ (l' ++ tl).length := by
                            rw [hlen2, hvl, hszz, ← Nat.add_mul]; exact Nat.mul_le_mul_right _ hle
                          have hst := run_storeCells_at P B (sv.len * size) e vs 0 (l' ++ tl).toArray w hw (by simpa using hbig) (allCells_sound hvs hcell)
                          have hsat : Sat (Jset J b (B, K)) (w.setRow B ((l' ++ tl).take (sv.len * size) ++ vs ++ (l' ++ tl).drop (sv.len * size + vs.length)).toArray) B K (.row (old ++ new) elem size false) := by
                            have hJn : Jext J (Jset J b (B, K)) := Jset.ext (by obtain ⟨rfl, _, _⟩ := new_eq hn; exact hr.fr _ (Nat.le_refl _))
                            refine ⟨l'.take (sv.len * size) ++ vs, (l' ++ tl).drop (sv.len * size + vs.length), (0, 0), (holdr.append hvs).mono hJn, ?_, ?_, fun _ => rfl⟩
                            · rw [setRow_heap w B _ _ e _ hw, List.take_append_of_le_length hob', hee]
                            · have hl2 : (l' ++ tl).length = K * size := by rw [hlen2, hszz]
                              have hbig' := hbig
                              rw [List.length_append] at hbig'
                              rw [← hl2]
                              simp only [List.length_append, List.length_take, List.length_drop, Nat.min_eq_left hob']
                              omega
                          obtain ⟨hr2, hext⟩ := hr.rename hg hJ rfl hn (fun i hi => setRow_other w B i _ hi) (by simp [World.setRow]) rfl rfl rfl hsat
                          refine ⟨_, _, _, jgr_drop hn hext, hr2, ⟨B, K, by simp [Jset], rfl⟩, ?_⟩
                          have := run_append_in (P := P) (ty := ty) h0 h1 hu hxu hxi hsz hcs hlen hfirst (by omega) (w' := w.setRow B ((l' ++ tl).take (sv.len * size) ++ vs ++ (l' ++ tl).drop (sv.len * size + vs.length)).toArray) (by
                            intro a ea; simp at ea; subst ea
                            rw [addr_add]; simpa using hst) (by simp)
                          simpa using this
                        · -- a new row
                          have hnb := nextcap_le (need := sv.len + n) (cap := K) (by omega)
                          have hbn : sv.b < h.nx := hr.ent _ _ _ (get_eq.1 hg)
                          obtain ⟨nc, hnc, hrun⟩ := run_append_out (P := P) (ty := ty) (old := l'.take (sv.len * size)) h0 h1 hu hxu hxi hsz hby hze hcs hlen hfirst1 (by omega)
                            (by
                              rw [hcs]
                              simp only [Builtin.firstCells]
                              have := run_loads (P := P) (w := w.drew) (B := B) (off := 0) (n := sv.len * size) (l' := l') (tl := tl) hw (by omega)
                              simpa using this) hbp (by
                              have : Builtin.nextslicecap (sv.len + n) K * bytes ≤ nextBound (sv.len + n) * bytes := Nat.mul_le_mul_right _ hnb
                              simp only [Nat.sub_zero]; omega)
                          have hrd : HR w0 J (h.drop sv.b) w.drew := hr1.drop hbn
                          have hJn : Jext J (Jset J b (w.drew.heap.size, nc)) := Jset.ext (by obtain ⟨rfl, _, _⟩ := new_eq hn; exact hrd.fr _ (Nat.le_refl _))
                          obtain ⟨hr2, hext⟩ := hrd.new hn (.cells (l'.take (sv.len * size) ++ vs1 ++ (repl (nc - (sv.len + n)) z.cells.toList)).toArray elem) nc ⟨l'.take (sv.len * size) ++ vs1, repl (nc - (sv.len + n)) z.cells.toList, (0, 0),
                            (holdr.append hvs1).mono hJn, push_get w.drew _, by
                              rw [List.length_append, List.length_append, repl_length, hvl1, hzl', List.length_take, Nat.min_eq_left hob', ← Nat.add_mul, ← Nat.add_mul]; congr 1; omega, fun _ => rfl⟩
                          exact ⟨_, _, .slice (some ⟨w.heap.size, 0, none⟩) (sv.len + n) nc, jgr_drop hn hext, hr2, ⟨w.heap.size, nc, by simp [Jset], by simp⟩, hrun⟩
                      · simp at hl
                    · simp at hl
                  · simp at hl
                · simp at hl
              · rename_i hu1
                simp at hu1
                rw [hu1] at hcs
                simp only [Bool.false_eq_true, if_false] at hcs
                split at hl
                · rename_i l hc
                  rw [cond_eq_ite] at hl
                  split at hl
                  · rename_i hle
                    simp at hle
                    split at hl
                    · rename_i l2 hsp
                      split at hl
                      · rename_i h2 hset
                        simp at hl
                        obtain ⟨rfl, rfl⟩ := hl
                        obtain ⟨B', K', w', hJ', hst, hr'⟩ := hr.splice (P := P) hc hvs hcell hsp hset
                        rw [hJ] at hJ'; simp at hJ'; obtain ⟨rfl, rfl⟩ := hJ'
                        refine ⟨J, w', _, Jgr.refl _ J, hr', ⟨B, K, hJ, rfl⟩, ?_⟩
                        exact run_append_in (P := P) (ty := ty) h0 h1 hu hxu hxi hsz hcs hlen hfirst hle (by
                          intro a ea; simp at ea; subst ea
                          rw [addr_add]; exact hst) (by simp)
                      · simp at hl
                    · simp at hl
                  · rename_i hle
                    simp at hle
                    split at hl
                    · rename_i old hold
                      split at hl
                      · rename_i b h2 hn
                        simp at hl
                        obtain ⟨rfl, rfl⟩ := hl
                        obtain ⟨B', K', l', tl, e, fz, hJ', hv, hw⟩ := hr.cells hc
                        rw [hJ] at hJ'; simp at hJ'; obtain ⟨rfl, rfl⟩ := hJ'
                        have hob := (seg_eq hold).2
                        rw [← hv.length] at hob
                        have holdl := seg_length hold
                        have hor := hv.seg hold
                        have hnb := nextcap_le (need := sv.len + n) (cap := sv.cap) (by omega)
                        obtain ⟨nc, hnc, hrun⟩ := run_append_out (P := P) (ty := ty) (old := (l'.drop sv.off).take (sv.len * size)) h0 h1 hu hxu hxi hsz hby hze hcs hlen hfirst1 (by omega)
                          (by
                            rw [hcs]
                            simp only [Builtin.firstCells]
                            exact run_loads (P := P) (w := w.drew) hw hob) hbp (by
                            have : Builtin.nextslicecap (sv.len + n) sv.cap * bytes ≤ nextBound (sv.len + n) * bytes := Nat.mul_le_mul_right _ hnb
                            omega)
                        have hJn : Jext J (Jset J b (w.drew.heap.size, nc)) := Jset.ext (by obtain ⟨rfl, _, _⟩ := new_eq hn; exact hr.fr _ (Nat.le_refl _))
                        obtain ⟨hr2, hext⟩ := hr1.new hn (.cells ((l'.drop sv.off).take (sv.len * size) ++ vs1 ++ (repl (nc - (sv.len + n)) z.cells.toList)).toArray elem) nc ⟨(l'.drop sv.off).take (sv.len * size) ++ vs1, repl (nc - (sv.len + n)) z.cells.toList, (0, 0),
                          (hor.append hvs1).mono hJn, push_get w.drew _, by
                            rw [List.length_append, List.length_append, repl_length, hvl1, hzl', hor.length, holdl, ← Nat.add_mul, ← Nat.add_mul]; congr 1; omega, fun _ => rfl⟩
                        exact ⟨_, _, .slice (some ⟨w.heap.size, 0, none⟩) (sv.len + n) nc, jgr_new hn hext, hr2, ⟨w.heap.size, nc, by simp [Jset], by simp⟩, hrun⟩
                      · simp at hl
                    · simp at hl
                · simp at hl
            · simp at hl
          · simp at hl
        · simp at hl
      · simp at hl
    · simp at hl
  · simp at hl

end Go.Ev
