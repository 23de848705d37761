/- Loads and stores of the evaluator come to what the model comes to. Condition: the memory is as the evaluator is told. -/
import Derived.Test.YtoiclimflfdaeaaGreatDoorEvRel
import GoSem.Dispatch
set_option linter.unusedSimpArgs false
set_option linter.unusedVariables false
set_option linter.constructorNameAsVariable false
namespace Go.Ev
open Go.RowKit (Below)

/-! Reading types. -/
section
variable {P : Program} (w : World)
theorem run_und {t : TypeId} {d : TypeDesc} (h : P.underlying t = some d) : (underlying t).run P w = .ok d w := by simp [underlying, h]
theorem run_info {t : TypeId} {i : TypeInfo} (h : P.info? t = some i) : (typeInfo t).run P w = .ok i w := by simp [typeInfo, h]
theorem run_size {t : TypeId} {n : Nat} (h : sizeOf? P t = some n) : (sizeOf t).run P w = .ok n w := by
  unfold sizeOf? at h
  split at h
  · rename_i i hi; simp at h; simp [sizeOf, run_info w hi, h]
  · simp at h
theorem run_bytes {t : TypeId} {n : Nat} (h : bytesOf? P t = some n) : ∃ i, (typeInfo t).run P w = .ok i w ∧ i.bytes = n := by
  unfold bytesOf? at h
  split at h
  · rename_i i hi; simp at h; exact ⟨i, run_info w hi, h⟩
  · simp at h
theorem run_zero {t : TypeId} {z : Value} (h : zero? P t = some z) : (zeroValue t).run P w = .ok z w := by
  unfold zero? at h
  split at h
  · rename_i i hi; simp [zeroValue, run_info w hi, h]
  · simp at h
theorem run_isAgg {t : TypeId} {b : Bool} (h : isAgg? P t = some b) : (isAgg t).run P w = .ok b w := by
  unfold isAgg? at h
  split at h <;> rename_i hu
  · simp at h; subst h; simp [isAgg, run_und w hu]
  · simp at h; subst h; simp [isAgg, run_und w hu]
  · rename_i d h1 h2
    simp at h; subst h
    simp only [isAgg, Sem.run_bind, run_und w hu, Result.andThen_ok]
    cases d <;> first | rfl | exact (h1 _ rfl).elim | exact (h2 _ _ rfl).elim
  · simp at h
end

/-! Lists. -/
theorem takeN_eq {α : Type} : ∀ {n : Nat} {l r : List α}, takeN n l = some r → r = l.take n ∧ n ≤ l.length
  | 0, l, r, h => by simp [takeN] at h; simp [← h]
  | n + 1, [], r, h => by simp [takeN] at h
  | n + 1, x :: l, r, h => by
    simp only [takeN] at h
    split at h
    · rename_i r' hr
      simp at h
      obtain ⟨h1, h2⟩ := takeN_eq hr
      subst h h1
      simpa using h2
    · simp at h

theorem seg_eq {α : Type} {l r : List α} {off n : Nat} (h : seg l off n = some r) : r = (l.drop off).take n ∧ (n = 0 ∨ off + n ≤ l.length) := by
  obtain ⟨h1, h2⟩ := takeN_eq h
  refine ⟨h1, ?_⟩
  simp at h2
  omega

theorem seg_length {α : Type} {l r : List α} {off n : Nat} (h : seg l off n = some r) : r.length = n := by
  obtain ⟨h1, h2⟩ := takeN_eq h
  subst h1
  simp at h2 ⊢
  omega

theorem VRs.seg {J : Jn} {l r : List AV} {c : List Value} {off n : Nat} (h : VRs J l c) (hs : seg l off n = some r) : VRs J r ((c.drop off).take n) := by
  obtain ⟨h1, _⟩ := seg_eq hs
  subst h1
  exact (h.drop off).take n

theorem splice_eq {α : Type} {l new r : List α} {off : Nat} (h : splice l off new = some r) : off + new.length ≤ l.length ∧ r = l.take off ++ new ++ l.drop (off + new.length) := by
  unfold splice at h
  rw [cond_eq_ite] at h
  split at h
  · rename_i hle
    exact ⟨by simpa using hle, (Option.some.inj h).symm⟩
  · simp at h

theorem addr_add (B off j : Nat) : (⟨B, off, none⟩ : Addr).add j = ⟨B, off + j, none⟩ := by
  unfold Addr.add
  split
  · rename_i h; simp [h]
  · rfl

/-- The known cells of a block. -/
theorem HR.cells {w0 : World} {J : Jn} {h : Hp} {w : World} (hr : HR w0 J h w) {b : Nat} {l : List AV} (hc : h.cells b = some l) :
    ∃ B K l' tl e fz, J b = some (B, K) ∧ VRs J l l' ∧ w.heap[B]? = some (.cells (l' ++ tl).toArray e fz) := by
  unfold Hp.cells at hc
  split at hc
  · rename_i l0 hg
    simp at hc; subst hc
    obtain ⟨B, K, hJ, l', e, fz, h1, h2⟩ := hr.get hg
    exact ⟨B, K, l', [], e, fz, hJ, h1, by simpa using h2⟩
  · rename_i l0 e hg
    simp at hc; subst hc
    obtain ⟨B, K, hJ, l', h1, h2⟩ := hr.get hg
    exact ⟨B, K, l', [], e, _, hJ, h1, by simpa using h2⟩
  · rename_i l0 e sz mk hg
    simp at hc; subst hc
    obtain ⟨B, K, hJ, l', tl, fz, h1, h2, _⟩ := hr.get hg
    exact ⟨B, K, l', tl, e, fz, hJ, h1, h2⟩
  · simp at hc

theorem cell_at {w : World} {B : Nat} {arr : Array Value} {e : TypeId} {fz : Nat × Nat} (h : w.heap[B]? = some (.cells arr e fz)) (j : Nat) : w.cell? ⟨B, j, none⟩ = arr[j]? := by
  simp [World.cell?, h]

/-- So many cells are loaded. -/
theorem run_loads {P : Program} {w : World} {B off n : Nat} {l' tl : List Value} {e : TypeId} {fz : Nat × Nat} (h : w.heap[B]? = some (.cells (l' ++ tl).toArray e fz)) (hn : n = 0 ∨ off + n ≤ l'.length) :
    (loadCells ⟨B, off, none⟩ n).run P w = .ok ((l'.drop off).take n).toArray w := by
  have := run_loadCells_list (P := P) w ⟨B, off, none⟩ ((l'.drop off).take n) (fun j v hv => by
    rw [addr_add, cell_at h]
    have hlt : j < ((l'.drop off).take n).length := (List.getElem?_eq_some_iff.1 hv).1
    simp at hlt
    rw [List.getElem?_take_of_lt (by omega), List.getElem?_drop] at hv
    simp only [List.getElem?_toArray]
    rw [List.getElem?_append_left (by omega)]
    exact hv)
  have hl : ((l'.drop off).take n).length = n := by simp; omega
  rwa [hl] at this

theorem part_sound {P : Program} {w : World} {J : Jn} {t : TypeId} {cs : List AV} {off : Nat} {v : AV} {l' : List Value} (hv : VRs J cs l') (h : part? P t cs off = some v) :
    ∃ c, VR J v c ∧ (part t l'.toArray off).run P w = .ok c w := by
  unfold part? at h
  split at h
  · rename_i ha
    split at h
    · rename_i n hn
      split at h
      · rename_i r hr
        simp at h; subst h
        refine ⟨.agg ((l'.drop off).take n).toArray, ⟨_, hv.seg hr, rfl⟩, ?_⟩
        simp [part, run_isAgg w ha, run_size w hn, List.extract_eq_take_drop]
      · simp at h
    · simp at h
  · rename_i ha
    split at h
    · rename_i x r hd
      simp at h; subst h
      have hx : cs[off]? = some x := by
        have : (cs.drop off)[0]? = some x := by rw [hd]; rfl
        simpa using this
      obtain ⟨y, hy, hr⟩ := hv.get off hx
      exact ⟨y, hr, by simp [part, run_isAgg w ha, hy]⟩
    · simp at h
  · simp at h

theorem load_sound {P : Program} {w0 : World} {J : Jn} {h : Hp} {w : World} (hr : HR w0 J h w) {t : TypeId} {a v : AV} {ca : Value} (ha : VR J a ca) (hl : load? P h t a = some v) :
    ∃ c, VR J v c ∧ (Instr.loadAt t ca).run P w = .ok c w := by
  unfold load? at hl
  split at hl
  · rename_i b off
    split at hl
    · rename_i l hc
      obtain ⟨B, K, l', tl, e, fz, hJ, hv, hw⟩ := hr.cells hc
      obtain ⟨B', K', hJ', rfl⟩ := ha
      rw [hJ] at hJ'; simp at hJ'; obtain ⟨rfl, rfl⟩ := hJ'
      unfold part? at hl
      split at hl
      · rename_i hag
        split at hl
        · rename_i n hn
          split at hl
          · rename_i r hs
            simp at hl; subst hl
            refine ⟨.agg ((l'.drop off).take n).toArray, ⟨_, hv.seg hs, rfl⟩, ?_⟩
            have hb := (seg_eq hs).2
            rw [← hv.length] at hb
            simp [Instr.loadAt, Instr.sureAddr, loadVar, run_isAgg w hag, run_size w hn, run_loads hw hb]
          · simp at hl
        · simp at hl
      · rename_i hag
        split at hl
        · rename_i x r hd
          simp at hl; subst hl
          have hx : l[off]? = some x := by
            have : (l.drop off)[0]? = some x := by rw [hd]; rfl
            simpa using this
          obtain ⟨y, hy, hr⟩ := hv.get off hx
          have hlt : off < l'.length := (List.getElem?_eq_some_iff.1 hy).1
          refine ⟨y, hr, ?_⟩
          have : w.cell? ⟨B, off, none⟩ = some y := by
            rw [cell_at hw]
            simp only [List.getElem?_toArray]
            rw [List.getElem?_append_left hlt]; exact hy
          simp [Instr.loadAt, Instr.sureAddr, loadVar, run_isAgg w hag, this]
        · simp at hl
      · simp at hl
    · simp at hl
  · simp at hl

/-! Stores. -/
theorem cells_rel {J : Jn} {x : AV} {c : Value} (h : VR J x c) : VRs J x.cells c.cells.toList := by
  cases x with
  | v y =>
    simp [VR] at h; subst h
    cases c <;> simp [AV.cells, Value.cells] <;> first | exact VRs.map_v _ | exact ⟨_, [], VR.vv _, VRs.nil, rfl⟩
  | agg l => obtain ⟨l', h1, rfl⟩ := h; simpa [AV.cells, Value.cells] using h1
  | ptr b off => obtain ⟨B, K, e, rfl⟩ := h; exact ⟨_, [], ⟨B, K, e, rfl⟩, VRs.nil, rfl⟩
  | sl b off l cp => obtain ⟨B, K, e, rfl⟩ := h; exact ⟨_, [], ⟨B, K, e, rfl⟩, VRs.nil, rfl⟩
  | slu b off l cp => obtain ⟨B, K, e, rfl⟩ := h; exact ⟨_, [], ⟨B, K, e, rfl⟩, VRs.nil, rfl⟩
  | sle b => obtain ⟨B, K, o, cp, e, rfl⟩ := h; exact ⟨_, [], ⟨B, K, o, cp, e, rfl⟩, VRs.nil, rfl⟩
  | map b => obtain ⟨B, K, e, rfl⟩ := h; exact ⟨_, [], ⟨B, K, e, rfl⟩, VRs.nil, rfl⟩
  | yield b => obtain ⟨B, K, e, rfl⟩ := h; exact ⟨_, [], ⟨B, K, e, rfl⟩, VRs.nil, rfl⟩
  | func fn f cp => obtain ⟨f', c', h1, h2, rfl⟩ := h; exact ⟨_, [], ⟨f', c', h1, h2, rfl⟩, VRs.nil, rfl⟩
  | iface t y => obtain ⟨z, h1, rfl⟩ := h; exact ⟨_, [], ⟨z, h1, rfl⟩, VRs.nil, rfl⟩
  | tup l => obtain ⟨l', h1, rfl⟩ := h; exact ⟨_, [], ⟨l', h1, rfl⟩, VRs.nil, rfl⟩
  | oi k i => obtain ⟨B, K, e, rfl⟩ := h; exact ⟨_, [], ⟨B, K, e, rfl⟩, VRs.nil, rfl⟩
  | osl i => obtain ⟨B, a, cp, e, rfl⟩ := h; exact ⟨_, [], ⟨B, a, cp, e, rfl⟩, VRs.nil, rfl⟩

theorem isCell_sound {J : Jn} {x : AV} {c : Value} (h : VR J x c) (hx : isCell x = true) : c.oneCell' = true := by
  cases x with
  | v y => simp [VR] at h; subst h; cases c <;> first | rfl | simp [isCell] at hx
  | agg l => simp [isCell] at hx
  | tup l => simp [isCell] at hx
  | ptr b off => obtain ⟨B, K, e, rfl⟩ := h; rfl
  | sl b off l cp => obtain ⟨B, K, e, rfl⟩ := h; rfl
  | slu b off l cp => obtain ⟨B, K, e, rfl⟩ := h; rfl
  | sle b => obtain ⟨B, K, o, cp, e, rfl⟩ := h; rfl
  | map b => obtain ⟨B, K, e, rfl⟩ := h; rfl
  | yield b => obtain ⟨B, K, e, rfl⟩ := h; rfl
  | func fn f cp => obtain ⟨f', c', h1, h2, rfl⟩ := h; rfl
  | iface t y => obtain ⟨z, h1, rfl⟩ := h; rfl
  | oi k i => obtain ⟨B, K, e, rfl⟩ := h; rfl
  | osl i => obtain ⟨B, a, cp, e, rfl⟩ := h; rfl

theorem allCells_sound {J : Jn} : ∀ {l : List AV} {c : List Value}, VRs J l c → allCells l = true → ∀ v ∈ c, v.oneCell' = true
  | [], _, h, _, v, hv => by simp [VRs] at h; subst h; simp at hv
  | x :: l, _, ⟨y, m, h1, h2, r⟩, ha, v, hv => by
    subst r
    simp [allCells] at ha
    simp at hv
    rcases hv with rfl | hv
    · exact isCell_sound h1 ha.1
    · exact allCells_sound h2 ha.2 v hv

/-- Cells are written over cells that are known. -/
theorem HR.splice {P : Program} {w0 : World} {J : Jn} {h h' : Hp} {w : World} (hr : HR w0 J h w) {b off : Nat} {l new l2 : List AV} {vs : List Value} (hc : h.cells b = some l) (hnew : VRs J new vs)
    (hcell : allCells new = true) (hs : splice l off new = some l2) (hset : h.setCells b l2 = some h') :
    ∃ B K w', J b = some (B, K) ∧ (storeCells ⟨B, off, none⟩ vs 0).run P w = .ok () w' ∧ HR w0 J h' w' := by
  obtain ⟨hle, rfl⟩ := splice_eq hs
  have hlen := hnew.length
  unfold Hp.setCells at hset
  split at hset
  · rename_i l0 e hg
    obtain rfl := Option.some.inj hset
    have hl : l0 = l := by
      unfold Hp.cells at hc; rw [hg] at hc; simpa using hc
    subst hl
    obtain ⟨B, K, hJ, l', h1, h2⟩ := hr.get hg
    have hl' := h1.length
    refine ⟨B, K, w.setRow B (l'.take off ++ vs ++ l'.drop (off + vs.length)).toArray, hJ, ?_, ?_⟩
    · have := run_storeCells_at P B off e vs 0 l'.toArray w h2 (by simp; omega) (allCells_sound hnew hcell)
      simpa using this
    · refine hr.put hg hJ rfl (fun i hi => setRow_other w B i _ hi) (by simp [World.setRow]) rfl rfl rfl ?_
      refine ⟨_, ((h1.take off).append hnew).append (h1.drop _), ?_⟩
      rw [← hlen]
      exact setRow_heap w B _ _ e _ h2
  · rename_i l0 e sz hg
    obtain rfl := Option.some.inj hset
    have hl : l0 = l := by
      unfold Hp.cells at hc; rw [hg] at hc; simpa using hc
    subst hl
    obtain ⟨B, K, hJ, l', tl, fz, h1, h2, h3, h4⟩ := hr.get hg
    have hl' := h1.length
    have hfz := h4 rfl
    subst hfz
    have hle' : off + vs.length ≤ l'.length := by omega
    refine ⟨B, K, w.setRow B ((l' ++ tl).take off ++ vs ++ (l' ++ tl).drop (off + vs.length)).toArray, hJ, ?_, ?_⟩
    · have := run_storeCells_at P B off e vs 0 (l' ++ tl).toArray w h2 (by simp; omega) (allCells_sound hnew hcell)
      simpa using this
    · refine hr.put hg hJ rfl (fun i hi => setRow_other w B i _ hi) (by simp [World.setRow]) rfl rfl rfl ?_
      refine ⟨l'.take off ++ vs ++ l'.drop (off + new.length), tl, (0, 0), ((h1.take off).append hnew).append (h1.drop _), ?_, ?_, fun _ => rfl⟩
      · rw [← hlen, setRow_heap w B _ _ e _ h2, List.take_append_of_le_length (by omega), List.drop_append_of_le_length hle']
        simp
      · rw [← h3]; simp; omega
  · simp at hset

theorem store_sound {P : Program} {w0 : World} {J : Jn} {h h' : Hp} {w : World} (hr : HR w0 J h w) {t : TypeId} {a x : AV} {ca cx : Value} (ha : VR J a ca) (hx : VR J x cx) (hl : store? P h t a x = some h') :
    ∃ w', (Instr.storeAt t ca cx).run P w = .ok () w' ∧ HR w0 J h' w' := by
  unfold store? at hl
  split at hl
  · rename_i b off
    split at hl
    · rename_i l hc
      split at hl
      · rename_i n hn
        rw [cond_eq_ite] at hl
        split at hl
        · rename_i hcond
          simp at hcond
          obtain ⟨hlen, hcell⟩ := hcond
          split at hl
          · rename_i l2 hs
            have hrel := cells_rel hx
            obtain ⟨B, K, w', hJ, hrun, hr'⟩ := hr.splice (P := P) hc hrel hcell hs hl
            obtain ⟨B', K', hJ', rfl⟩ := ha
            rw [hJ] at hJ'; simp at hJ'; obtain ⟨rfl, rfl⟩ := hJ'
            refine ⟨w', ?_, hr'⟩
            have hsz : cx.cells.size = n := by
              rw [← hlen, ← hrel.length]; simp
            simp [Instr.storeAt, Instr.sureAddr, storeVar, run_size w hn, hsz, hrun]
          · simp at hl
        · simp at hl
      · simp at hl
    · simp at hl
  · simp at hl

end Go.Ev
