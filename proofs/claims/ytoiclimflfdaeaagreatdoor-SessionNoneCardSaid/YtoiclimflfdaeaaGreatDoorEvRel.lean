/- What the evaluator's names and values stand for in a memory of the model, and that this is kept by writes, by new blocks and by blocks told ahead. No conditions. -/
import Derived.Test.YtoiclimflfdaeaaGreatDoorEvDef
import Derived.Calls
import Derived.Laws.Sem
import Derived.Laws.Cells
import Derived.Laws.CopyRow
import Derived.Below
set_option linter.unusedSimpArgs false
set_option linter.unusedVariables false
set_option linter.constructorNameAsVariable false
namespace Go.Ev
open Go.RowKit (Below)

/-! Tries. -/
theorem Tr.find_nil {α : Type} (k : Nat) : (Tr.nil : Tr α).find k = none := by simp [Tr.find]

theorem half_odd {k f : Nat} (h1 : k % 2 = 1) (hk : k + 1 < 2 ^ (f + 1)) : k / 2 + 1 < 2 ^ f := by
  have : 2 ^ (f + 1) = 2 * 2 ^ f := by rw [Nat.pow_succ]; omega
  omega

theorem half_even {k f : Nat} (h0 : k ≠ 0) (h1 : ¬ k % 2 = 1) (hk : k + 1 < 2 ^ (f + 1)) : k / 2 - 1 + 1 < 2 ^ f := by
  have : 2 ^ (f + 1) = 2 * 2 ^ f := by rw [Nat.pow_succ]; omega
  omega

theorem beq_t {a b : Nat} (h : a = b) : a.beq b = true := by subst h; exact Nat.beq_refl a
theorem of_beq {a b : Nat} (h : a.beq b = true) : a = b := Nat.eq_of_beq_eq_true h
theorem beq_f {a b : Nat} (h : ¬ a = b) : a.beq b = false := by
  cases e : a.beq b
  · rfl
  · exact (h (of_beq e)).elim

theorem Tr.find_zero {α : Type} (x : Option α) (l r : Tr α) : (Tr.node x l r).find 0 = x := rfl
theorem Tr.find_odd {α : Type} (x : Option α) (l r : Tr α) {j : Nat} (h : ¬ j = 0) (h1 : j % 2 = 1) : (Tr.node x l r).find j = l.find (j / 2) := by
  simp only [Tr.find, beq_f h, beq_t h1, cond_false, cond_true]
theorem Tr.find_even {α : Type} (x : Option α) (l r : Tr α) {j : Nat} (h : ¬ j = 0) (h1 : ¬ j % 2 = 1) : (Tr.node x l r).find j = r.find (j / 2 - 1) := by
  simp only [Tr.find, beq_f h, beq_f h1, cond_false]

theorem Tr.find_step {α : Type} (x : Option α) (l r : Tr α) (k : Nat) (v : Option α) (j : Nat) (f : Nat) (h : k + 1 < 2 ^ (f + 1))
    (il : k / 2 + 1 < 2 ^ f → ∀ j, (Tr.upd f l (k / 2) v).find j = if j = k / 2 then v else l.find j)
    (ir : k / 2 - 1 + 1 < 2 ^ f → ∀ j, (Tr.upd f r (k / 2 - 1) v).find j = if j = k / 2 - 1 then v else r.find j) :
    (bif k.beq 0 then Tr.node v l r else bif (k % 2).beq 1 then .node x (Tr.upd f l (k / 2) v) r else .node x l (Tr.upd f r (k / 2 - 1) v)).find j = if j = k then v else (Tr.node x l r).find j := by
  by_cases hk : k = 0
  · subst hk
    by_cases hj : j = 0
    · subst hj; rfl
    · rw [if_neg hj]
      by_cases hj1 : j % 2 = 1
      · rw [beq_t rfl, cond_true, Tr.find_odd _ _ _ hj hj1, Tr.find_odd _ _ _ hj hj1]
      · rw [beq_t rfl, cond_true, Tr.find_even _ _ _ hj hj1, Tr.find_even _ _ _ hj hj1]
  · rw [beq_f hk, cond_false]
    by_cases h1 : k % 2 = 1
    · rw [beq_t h1, cond_true]
      by_cases hj : j = 0
      · subst hj; rw [if_neg (Ne.symm hk)]; rfl
      · by_cases hj1 : j % 2 = 1
        · rw [Tr.find_odd _ _ _ hj hj1, Tr.find_odd _ _ _ hj hj1, il (half_odd h1 h)]
          by_cases e : j = k
          · rw [if_pos e, if_pos (by omega)]
          · rw [if_neg e, if_neg (by omega)]
        · rw [Tr.find_even _ _ _ hj hj1, Tr.find_even _ _ _ hj hj1, if_neg (by intro e; subst e; exact hj1 h1)]
    · rw [beq_f h1, cond_false]
      by_cases hj : j = 0
      · subst hj; rw [if_neg (Ne.symm hk)]; rfl
      · by_cases hj1 : j % 2 = 1
        · rw [Tr.find_odd _ _ _ hj hj1, Tr.find_odd _ _ _ hj hj1, if_neg (by intro e; subst e; exact h1 hj1)]
        · rw [Tr.find_even _ _ _ hj hj1, Tr.find_even _ _ _ hj hj1, ir (half_even hk h1 h)]
          by_cases e : j = k
          · rw [if_pos e, if_pos (by omega)]
          · rw [if_neg e, if_neg (by omega)]

theorem Tr.nil_node {α : Type} (j : Nat) : (Tr.node none .nil .nil : Tr α).find j = none := by
  by_cases hj : j = 0
  · subst hj; rfl
  · by_cases hj1 : j % 2 = 1
    · rw [Tr.find_odd _ _ _ hj hj1, Tr.find_nil]
    · rw [Tr.find_even _ _ _ hj hj1, Tr.find_nil]

theorem Tr.find_upd {α : Type} : ∀ (f : Nat) (t : Tr α) (k : Nat) (v : Option α) (j : Nat), k + 1 < 2 ^ f → (Tr.upd f t k v).find j = if j = k then v else t.find j
  | 0, _, k, _, _, h => by simp at h
  | f + 1, .nil, k, v, j, h => by
    rw [Tr.find_nil]
    have := Tr.find_step (none : Option α) .nil .nil k v j f h (fun hk j => Tr.find_upd f .nil (k / 2) v j hk) (fun hk j => Tr.find_upd f .nil (k / 2 - 1) v j hk)
    rw [Tr.nil_node] at this
    exact this
  | f + 1, .node x l r, k, v, j, h =>
    Tr.find_step x l r k v j f h (fun hk j => Tr.find_upd f l (k / 2) v j hk) (fun hk j => Tr.find_upd f r (k / 2 - 1) v j hk)

theorem find_upd {α : Type} {t : Tr α} {k : Nat} {v : Option α} {j : Nat} (h : k ≤ 1000000) : (t.upd bits k v).find j = if j = k then v else t.find j :=
  Tr.find_upd _ _ _ _ _ (by unfold bits; omega)

/-! What names of blocks stand for: a block, and how many elements it has room for. -/
abbrev Jn := Nat → Option (Nat × Nat)

def Jext (J J' : Jn) : Prop := ∀ b x, J b = some x → J' b = some x

theorem Jext.refl (J : Jn) : Jext J J := fun _ _ h => h
theorem Jext.trans {J J' J'' : Jn} (h : Jext J J') (h' : Jext J' J'') : Jext J J'' := fun b x e => h' b x (h b x e)

mutual
def VR (J : Jn) : AV → Value → Prop
  | .v x, c => c = x
  | .ptr b off, c => ∃ B K, J b = some (B, K) ∧ c = .pointer (some ⟨B, off, none⟩)
  | .sl b off len cap, c => ∃ B K, J b = some (B, K) ∧ c = .slice (some ⟨B, off, none⟩) len cap
  | .slu b adj len sz, c => ∃ B K, J b = some (B, K) ∧ c = .slice (some ⟨B, adj * sz, none⟩) len (K - adj)
  | .sle b, c => ∃ B K off cap, J b = some (B, K) ∧ c = .slice (some ⟨B, off, none⟩) 0 cap
  | .map b, c => ∃ B K, J b = some (B, K) ∧ c = .map (some B)
  | .func fn f cp, c => ∃ f' cp', VRs J f f' ∧ VRs J cp cp' ∧ c = .func fn f'.toArray cp'.toArray
  | .yield b, c => ∃ B K, J b = some (B, K) ∧ c = .func (.yield B) #[] #[]
  | .iface t x, c => ∃ y, VR J x y ∧ c = .iface t y
  | .agg l, c => ∃ l', VRs J l l' ∧ c = .agg l'.toArray
  | .tup l, c => ∃ l', VRs J l l' ∧ c = .tuple l'.toArray
  | .oi k i, c => ∃ B K, J i = some (B, K) ∧ c = .int k ((B : Int) - (K : Int))
  | .osl i, c => ∃ B a cap, J i = some (B, 0) ∧ c = .slice a B cap
def VRs (J : Jn) : List AV → List Value → Prop
  | [], c => c = []
  | x :: l, c => ∃ y m, VR J x y ∧ VRs J l m ∧ c = y :: m
end

mutual
theorem VR.mono {J J' : Jn} (h : Jext J J') : ∀ (x : AV) (c : Value), VR J x c → VR J' x c
  | .v _, _, hv => by simpa [VR] using hv
  | .ptr _ _, _, ⟨B, K, e, r⟩ => ⟨B, K, h _ _ e, r⟩
  | .sl _ _ _ _, _, ⟨B, K, e, r⟩ => ⟨B, K, h _ _ e, r⟩
  | .slu _ _ _ _, _, ⟨B, K, e, r⟩ => ⟨B, K, h _ _ e, r⟩
  | .sle _, _, ⟨B, K, o, c, e, r⟩ => ⟨B, K, o, c, h _ _ e, r⟩
  | .map _, _, ⟨B, K, e, r⟩ => ⟨B, K, h _ _ e, r⟩
  | .func _ f cp, _, ⟨f', c', h1, h2, r⟩ => ⟨f', c', VRs.mono h f f' h1, VRs.mono h cp c' h2, r⟩
  | .yield _, _, ⟨B, K, e, r⟩ => ⟨B, K, h _ _ e, r⟩
  | .iface _ x, _, ⟨y, h1, r⟩ => ⟨y, VR.mono h x y h1, r⟩
  | .agg l, _, ⟨l', h1, r⟩ => ⟨l', VRs.mono h l l' h1, r⟩
  | .tup l, _, ⟨l', h1, r⟩ => ⟨l', VRs.mono h l l' h1, r⟩
  | .oi _ _, _, ⟨B, K, e, r⟩ => ⟨B, K, h _ _ e, r⟩
  | .osl _, _, ⟨B, a, cap, e, r⟩ => ⟨B, a, cap, h _ _ e, r⟩
theorem VRs.mono {J J' : Jn} (h : Jext J J') : ∀ (l : List AV) (c : List Value), VRs J l c → VRs J' l c
  | [], _, hv => by simpa [VRs] using hv
  | x :: l, _, ⟨y, m, h1, h2, r⟩ => ⟨y, m, VR.mono h x y h1, VRs.mono h l m h2, r⟩
end

section
variable {J : Jn}
theorem VRs.nil : VRs J [] [] := by simp [VRs]
theorem VRs.cons {x : AV} {y : Value} {l : List AV} {m : List Value} (h : VR J x y) (hl : VRs J l m) : VRs J (x :: l) (y :: m) := ⟨y, m, h, hl, rfl⟩
theorem VR.v_iff {x c : Value} : VR J (.v x) c ↔ c = x := by simp [VR]
theorem VR.vv (x : Value) : VR J (.v x) x := by simp [VR]

theorem VRs.length : ∀ {l : List AV} {c : List Value}, VRs J l c → c.length = l.length
  | [], _, h => by simp [VRs] at h; simp [h]
  | _ :: _, _, ⟨_, _, _, h, r⟩ => by subst r; simp [VRs.length h]

theorem VRs.append : ∀ {l : List AV} {c : List Value} {l' : List AV} {c' : List Value}, VRs J l c → VRs J l' c' → VRs J (l ++ l') (c ++ c')
  | [], _, _, _, h, h' => by simp [VRs] at h; simpa [h] using h'
  | _ :: _, _, _, _, ⟨y, m, h1, h2, r⟩, h' => by subst r; exact ⟨y, _, h1, VRs.append h2 h', rfl⟩

theorem VRs.take : ∀ {l : List AV} {c : List Value} (n : Nat), VRs J l c → VRs J (l.take n) (c.take n)
  | [], _, n, h => by simp [VRs] at h; simp [h, VRs]
  | _ :: _, _, 0, _ => by simp [VRs]
  | _ :: _, _, n + 1, ⟨y, m, h1, h2, r⟩ => by subst r; exact ⟨y, _, h1, VRs.take n h2, rfl⟩

theorem VRs.drop : ∀ {l : List AV} {c : List Value} (n : Nat), VRs J l c → VRs J (l.drop n) (c.drop n)
  | [], _, n, h => by simp [VRs] at h; simp [h, VRs]
  | _ :: _, _, 0, h => h
  | _ :: _, _, n + 1, ⟨y, m, h1, h2, r⟩ => by subst r; simpa using VRs.drop n h2

theorem VRs.get : ∀ {l : List AV} {c : List Value} (n : Nat) {x : AV}, VRs J l c → l[n]? = some x → ∃ y, c[n]? = some y ∧ VR J x y
  | [], _, n, _, h, e => by simp at e
  | _ :: _, _, 0, _, ⟨y, m, h1, h2, r⟩, e => by subst r; simp at e; subst e; exact ⟨y, rfl, h1⟩
  | _ :: _, _, n + 1, _, ⟨y, m, h1, h2, r⟩, e => by subst r; simpa using VRs.get n h2 (by simpa using e)

theorem VRs.map_v : ∀ (l : List Value), VRs J (l.map .v) l
  | [] => by simp [VRs]
  | x :: l => ⟨x, l, VR.vv x, VRs.map_v l, rfl⟩

theorem VRs.of_map_v : ∀ {l : List Value} {c : List Value}, VRs J (l.map .v) c → c = l
  | [], _, h => by simpa [VRs] using h
  | x :: l, _, ⟨y, m, h1, h2, r⟩ => by simp [VR] at h1; rw [r, h1, VRs.of_map_v h2]

theorem VRs.append_inv : ∀ {l l' : List AV} {c : List Value}, VRs J (l ++ l') c → ∃ a b, VRs J l a ∧ VRs J l' b ∧ c = a ++ b
  | [], _, c, h => ⟨[], c, by simp [VRs], h, rfl⟩
  | x :: l, l', _, ⟨y, m, h1, h2, r⟩ => by
    obtain ⟨a, b, ha, hb, rfl⟩ := VRs.append_inv (l := l) h2
    exact ⟨y :: a, b, ⟨y, a, h1, ha, rfl⟩, hb, r⟩
end

mutual
theorem pure_sound {J : Jn} : ∀ (x : AV) {v c : Value}, x.pure? = some v → VR J x c → c = v
  | .v _, v, c, h, r => by simp [AV.pure?] at h; simp [VR] at r; rw [r, h]
  | .ptr _ _, _, _, h, _ => by simp [AV.pure?] at h
  | .sl _ _ _ _, _, _, h, _ => by simp [AV.pure?] at h
  | .slu _ _ _ _, _, _, h, _ => by simp [AV.pure?] at h
  | .sle _, _, _, h, _ => by simp [AV.pure?] at h
  | .map _, _, _, h, _ => by simp [AV.pure?] at h
  | .yield _, _, _, h, _ => by simp [AV.pure?] at h
  | .oi _ _, _, _, h, _ => by simp [AV.pure?] at h
  | .osl _, _, _, h, _ => by simp [AV.pure?] at h
  | .func fn f cp, v, c, h, ⟨f', c', h1, h2, r⟩ => by
    simp only [AV.pure?] at h
    split at h
    · rename_i pf hf
      split at h
      · rename_i pc hc
        simp at h
        rw [r, ← h, pures_sound f hf h1, pures_sound cp hc h2]
      · simp at h
    · simp at h
  | .iface t x, v, c, h, ⟨y, h1, r⟩ => by
    simp only [AV.pure?] at h
    split at h
    · rename_i px hx
      simp at h
      rw [r, ← h, pure_sound x hx h1]
    · simp at h
  | .agg l, v, c, h, ⟨l', h1, r⟩ => by
    simp only [AV.pure?] at h
    split at h
    · rename_i pl hl
      simp at h
      rw [r, ← h, pures_sound l hl h1]
    · simp at h
  | .tup l, v, c, h, ⟨l', h1, r⟩ => by
    simp only [AV.pure?] at h
    split at h
    · rename_i pl hl
      simp at h
      rw [r, ← h, pures_sound l hl h1]
    · simp at h
theorem pures_sound {J : Jn} : ∀ (l : List AV) {v c : List Value}, AV.pures? l = some v → VRs J l c → c = v
  | [], v, c, h, r => by simp [AV.pures?] at h; simp [VRs] at r; rw [r, ← h]
  | x :: l, v, c, h, ⟨y, m, h1, h2, r⟩ => by
    simp only [AV.pures?] at h
    split at h
    · rename_i px hx
      split at h
      · rename_i pl hl
        simp at h
        rw [r, ← h, pure_sound x hx h1, pures_sound l hl h2]
      · simp at h
    · simp at h
end

theorem pureRun_sound {α : Type} {P : Program} : ∀ (s : Sem α) {a : α}, pureRun P s = some a → ∀ w, s.run P w = .ok a w
  | .pure a, _, h, w => by simp [pureRun] at h; simp [Sem.run, h]
  | .program k, _, h, w => by simp only [pureRun] at h; simp only [Sem.run]; exact pureRun_sound (k P) h w
  | .mark _ k, _, h, w => by simp only [pureRun] at h; simp only [Sem.run]; exact pureRun_sound k h w
  | .load .., _, h, _ => by simp [pureRun] at h
  | .store .., _, h, _ => by simp [pureRun] at h
  | .new .., _, h, _ => by simp [pureRun] at h
  | .shape .., _, h, _ => by simp [pureRun] at h
  | .freeze .., _, h, _ => by simp [pureRun] at h
  | .frozen .., _, h, _ => by simp [pureRun] at h
  | .getObj .., _, h, _ => by simp [pureRun] at h
  | .setObj .., _, h, _ => by simp [pureRun] at h
  | .choose .., _, h, _ => by simp [pureRun] at h
  | .sys .., _, h, _ => by simp [pureRun] at h
  | .halt .., _, h, _ => by simp [pureRun] at h

/-- What is told of the caller's names. -/
structure GlobOk (E : Env) (J : Jn) : Prop where
  glob : ∀ g, E.glob g = true → ∃ K, J g = some (g, K)
  lo : ∀ i m, E.lo i = some m → ∃ B K, J i = some (B, K) ∧ m ≤ (B : Int) - (K : Int)
  hi : ∀ i m, E.hi i = some m → ∃ B K, J i = some (B, K) ∧ (B : Int) - (K : Int) < m

theorem GlobOk.mono {E : Env} {J J' : Jn} (h : GlobOk E J) (hj : Jext J J') : GlobOk E J' :=
  ⟨fun g hg => let ⟨K, e⟩ := h.glob g hg; ⟨K, hj _ _ e⟩, fun i m e => let ⟨B, K, e1, e2⟩ := h.lo i m e; ⟨B, K, hj _ _ e1, e2⟩, fun i m e => let ⟨B, K, e1, e2⟩ := h.hi i m e; ⟨B, K, hj _ _ e1, e2⟩⟩

/-! Memory. -/
def ER (J : Jn) : List (AV × AV × Nat) → List MapEntry → Prop
  | [], c => c = []
  | (k, v, n) :: l, c => ∃ e m, VR J k e.key ∧ VR J v e.val ∧ e.born = n ∧ ER J l m ∧ c = e :: m

def DR (J : Jn) : ATgt → Deferred → Prop
  | .fn f cp args, d => ∃ cp' args', VRs J cp cp' ∧ VRs J args args' ∧ d = ⟨.fn f cp'.toArray, args'.toArray⟩
  | .yield b args, d => ∃ B K args', J b = some (B, K) ∧ VRs J args args' ∧ d = ⟨.fn (.yield B) #[], args'.toArray⟩
  | .collected b, d => ∃ B K, J b = some (B, K) ∧ d = ⟨.collected B, #[]⟩

def DRs (J : Jn) : List ATgt → List Deferred → Prop
  | [], c => c = []
  | x :: l, c => ∃ y m, DR J x y ∧ DRs J l m ∧ c = y :: m

/-- Temporaries, but for some. -/
def TRx (J : Jn) (ex : Nat → Prop) (T : Tr AV) (n : Nat) (tmps : Array Value) : Prop :=
  tmps.size = n ∧ n ≤ 1000000 ∧ ∀ t, ¬ ex t → VR J (tmp T t) (tmps.getD t undef)

abbrev TR (J : Jn) (T : Tr AV) (n : Nat) (tmps : Array Value) : Prop := TRx J (fun _ => False) T n tmps

def Sat (J : Jn) (w : World) (B K : Nat) : AObj → Prop
  | .ro l => ∃ l' e fz, VRs J l l' ∧ w.heap[B]? = some (.cells l'.toArray e fz)
  | .cells l e => ∃ l', VRs J l l' ∧ w.heap[B]? = some (.cells l'.toArray e (0, 0))
  | .row l e sz mk => ∃ l' tl fz, VRs J l l' ∧ w.heap[B]? = some (.cells (l' ++ tl).toArray e fz) ∧ (l' ++ tl).length = K * sz ∧ (mk = false → fz = (0, 0))
  | .map es c => ∃ es', ER J es es' ∧ w.heap[B]? = some (.map es'.toArray c)
  | .mapIter m since seen stepped => ∃ m', (m = none ∧ m' = none ∨ ∃ b B' K', m = some b ∧ J b = some (B', K') ∧ m' = some B') ∧ w.heap[B]? = some (.mapIter m' since seen.toArray stepped)
  | .strIter s pos => w.heap[B]? = some (.stringIter s pos)
  | .loop st pending fn T n ps a b d => ∃ tmps D K', TR J T n tmps ∧ J d = some (D, K') ∧ w.heap[B]? = some (.loop ⟨st, pending, fn, tmps, ps.toArray, a, b, D⟩)
  | .deferred none => w.heap[B]? = some (.deferred none)
  | .deferred (some l) => ∃ l', DRs J l l' ∧ w.heap[B]? = some (.deferred (some l'))

def isRo : AObj → Bool
  | .ro _ => true
  | _ => false

theorem ER.mono {J J' : Jn} (h : Jext J J') : ∀ {l c}, ER J l c → ER J' l c
  | [], _, hv => by simpa [ER] using hv
  | (_, _, _) :: _, _, ⟨e, m, h1, h2, h3, h4, r⟩ => ⟨e, m, h1.mono h, h2.mono h, h3, ER.mono h h4, r⟩

theorem DR.mono {J J' : Jn} (h : Jext J J') : ∀ {x c}, DR J x c → DR J' x c
  | .fn _ _ _, _, ⟨a, b, h1, h2, r⟩ => ⟨a, b, h1.mono h, h2.mono h, r⟩
  | .yield _ _, _, ⟨B, K, a, h1, h2, r⟩ => ⟨B, K, a, h _ _ h1, h2.mono h, r⟩
  | .collected _, _, ⟨B, K, h1, r⟩ => ⟨B, K, h _ _ h1, r⟩

theorem DRs.mono {J J' : Jn} (h : Jext J J') : ∀ {l c}, DRs J l c → DRs J' l c
  | [], _, hv => by simpa [DRs] using hv
  | _ :: _, _, ⟨y, m, h1, h2, r⟩ => ⟨y, m, h1.mono h, DRs.mono h h2, r⟩

theorem TRx.mono {J J' : Jn} (h : Jext J J') {ex : Nat → Prop} {T : Tr AV} {n : Nat} {tmps : Array Value} (ht : TRx J ex T n tmps) : TRx J' ex T n tmps :=
  ⟨ht.1, ht.2.1, fun t hx => (ht.2.2 t hx).mono h⟩

theorem Sat.mono {J J' : Jn} (h : Jext J J') {w : World} {B K : Nat} : ∀ {o : AObj}, Sat J w B K o → Sat J' w B K o
  | .ro _, ⟨l', e, fz, h1, r⟩ => ⟨l', e, fz, h1.mono h, r⟩
  | .cells _ _, ⟨l', h1, r⟩ => ⟨l', h1.mono h, r⟩
  | .row _ _ _ _, ⟨l', tl, fz, h1, r⟩ => ⟨l', tl, fz, h1.mono h, r⟩
  | .map _ _, ⟨es', h1, r⟩ => ⟨es', h1.mono h, r⟩
  | .mapIter _ _ _ _, ⟨m', h1, r⟩ => ⟨m', h1.imp id fun ⟨b, B', K', e1, e2, e3⟩ => ⟨b, B', K', e1, h _ _ e2, e3⟩, r⟩
  | .strIter _ _, r => r
  | .loop _ _ _ _ _ _ _ _ _, ⟨tmps, D, K', h1, h2, r⟩ => ⟨tmps, D, K', h1.mono h, h _ _ h2, r⟩
  | .deferred none, r => r
  | .deferred (some _), ⟨l', h1, r⟩ => ⟨l', h1.mono h, r⟩

theorem Sat.at {J : Jn} {w w' : World} {B K : Nat} (h : w'.heap[B]? = w.heap[B]?) : ∀ {o : AObj}, Sat J w B K o → Sat J w' B K o
  | .ro _, ⟨l', e, fz, h1, r⟩ => ⟨l', e, fz, h1, h.trans r⟩
  | .cells _ _, ⟨l', h1, r⟩ => ⟨l', h1, h.trans r⟩
  | .row _ _ _ _, ⟨l', tl, fz, h1, r, s⟩ => ⟨l', tl, fz, h1, h.trans r, s⟩
  | .map _ _, ⟨es', h1, r⟩ => ⟨es', h1, h.trans r⟩
  | .mapIter _ _ _ _, ⟨m', h1, r⟩ => ⟨m', h1, h.trans r⟩
  | .strIter _ _, r => h.trans r
  | .loop _ _ _ _ _ _ _ _ _, ⟨tmps, D, K', h1, h2, r⟩ => ⟨tmps, D, K', h1, h2, h.trans r⟩
  | .deferred none, r => h.trans r
  | .deferred (some _), ⟨l', h1, r⟩ => ⟨l', h1, h.trans r⟩

theorem lt_of_some {α : Type} {a : Array α} {i : Nat} {x : α} (h : a[i]? = some x) : i < a.size := (Array.getElem?_eq_some_iff.1 h).1

theorem Sat.lt {J : Jn} {w : World} {B K : Nat} : ∀ {o : AObj}, Sat J w B K o → B < w.heap.size
  | .ro _, ⟨_, _, _, _, r⟩ => lt_of_some r
  | .cells _ _, ⟨_, _, r⟩ => lt_of_some r
  | .row _ _ _ _, ⟨_, _, _, _, r, _⟩ => lt_of_some r
  | .map _ _, ⟨_, _, r⟩ => lt_of_some r
  | .mapIter _ _ _ _, ⟨_, _, r⟩ => lt_of_some r
  | .strIter _ _, r => lt_of_some r
  | .loop _ _ _ _ _ _ _ _ _, ⟨_, _, _, _, _, r⟩ => lt_of_some r
  | .deferred none, r => lt_of_some r
  | .deferred (some _), ⟨_, _, r⟩ => lt_of_some r

/-- What is known of memory, since some world. -/
structure HR (w0 : World) (J : Jn) (h : Hp) (w : World) : Prop where
  nx : h.nx ≤ 1000000
  ent : ∀ b f o, h.H.find b = some (f, o) → b < h.nx
  fr : ∀ b, h.nx ≤ b → J b = none
  real : ∀ b o, h.H.find b = some (false, o) → ∃ B K, J b = some (B, K)
  sat : ∀ b f o B K, h.H.find b = some (f, o) → J b = some (B, K) → Sat J w B K o
  inj : ∀ b b' f f' o o' B K K', h.H.find b = some (f, o) → h.H.find b' = some (f', o') → J b = some (B, K) → J b' = some (B, K') → b = b'
  mine : ∀ b f o B K, h.H.find b = some (f, o) → J b = some (B, K) → isRo o = false → w0.heap.size ≤ B
  below : Below w0.heap.size w0 w

theorem get_eq {h : Hp} {b : Nat} {o : AObj} : h.get b = some o ↔ h.H.find b = some (false, o) := by
  unfold Hp.get
  split
  · rename_i o' e; rw [e]; simp
  · rename_i hne
    constructor
    · intro e; simp at e
    · intro e; exact (hne o e).elim

theorem HR.get {w0 : World} {J : Jn} {h : Hp} {w : World} (hr : HR w0 J h w) {b : Nat} {o : AObj} (hg : h.get b = some o) : ∃ B K, J b = some (B, K) ∧ Sat J w B K o := by
  obtain ⟨B, K, e⟩ := hr.real b o (get_eq.1 hg)
  exact ⟨B, K, e, hr.sat b _ o B K (get_eq.1 hg) e⟩

/-- A block is written. -/
theorem HR.put {w0 : World} {J : Jn} {h : Hp} {w w' : World} (hr : HR w0 J h w) {b : Nat} {o o' : AObj} {B K : Nat} (hg : h.get b = some o) (hJ : J b = some (B, K)) (h1 : isRo o = false)
    (hw : ∀ i, i ≠ B → w'.heap[i]? = w.heap[i]?) (hsz : w'.heap.size = w.heap.size) (hos : w'.os = w.os) (htape : w'.tape = w.tape) (hout : w'.output = w.output)
    (hs : Sat J w' B K o') : HR w0 J (h.put b o') w' := by
  have hf := get_eq.1 hg
  have hb : b < h.nx := hr.ent _ _ _ hf
  have hnx := hr.nx
  have hfind : ∀ j, (h.put b o').H.find j = if j = b then some (false, o') else h.H.find j := fun j => by
    unfold Hp.put; exact find_upd (by omega)
  have hmine := hr.mine _ _ _ _ _ hf hJ h1
  refine ⟨hnx, ?_, hr.fr, ?_, ?_, ?_, ?_, ?_⟩
  · intro j f x e
    rw [hfind] at e
    split at e
    · rename_i ej; subst ej; exact hb
    · exact hr.ent _ _ _ e
  · intro j x e
    rw [hfind] at e
    split at e
    · rename_i ej; subst ej; exact ⟨B, K, hJ⟩
    · exact hr.real _ _ e
  · intro j f x B' K' e ej
    rw [hfind] at e
    split at e
    · rename_i eb; subst eb
      rw [hJ] at ej; simp at ej e
      obtain ⟨rfl, rfl⟩ := ej
      obtain ⟨_, rfl⟩ := e
      exact hs
    · rename_i eb
      refine (hr.sat _ _ _ _ _ e ej).at (hw _ ?_)
      rintro rfl
      exact eb (hr.inj _ _ _ _ _ _ _ _ _ e hf ej hJ)
  · intro i j f f' x x' B' K1 K2 e1 e2 j1 j2
    rw [hfind] at e1 e2
    split at e1 <;> split at e2
    · rename_i a c; rw [a, c]
    · rename_i a c; subst a
      exact hr.inj _ _ _ _ _ _ _ _ _ hf e2 j1 j2
    · rename_i a c; subst c
      exact hr.inj _ _ _ _ _ _ _ _ _ e1 hf j1 j2
    · exact hr.inj _ _ _ _ _ _ _ _ _ e1 e2 j1 j2
  · intro j f x B' K' e ej hx
    rw [hfind] at e
    split at e
    · rename_i eb; subst eb
      rw [hJ] at ej; simp at ej
      obtain ⟨rfl, rfl⟩ := ej
      exact hmine
    · exact hr.mine _ _ _ _ _ e ej hx
  · have hb := hr.below
    exact ⟨hos.trans hb.os, htape.trans hb.tape, hout.trans hb.output, by rw [hsz]; exact hb.size, fun k hk => (hw k (by omega)).trans (hb.block k hk)⟩

def Jset (J : Jn) (b : Nat) (x : Nat × Nat) : Jn := fun j => if j = b then some x else J j

theorem Jset.ext {J : Jn} {b : Nat} {x : Nat × Nat} (h : J b = none) : Jext J (Jset J b x) := fun j y e => by
  unfold Jset; split
  · rename_i ej; subst ej; rw [h] at e; simp at e
  · exact e

/-- Nothing but the next name has got a meaning. -/
def Jgr (nx : Nat) (J J' : Jn) : Prop := Jext J J' ∧ ∀ c, c ≠ nx → J' c = J c

theorem Jgr.refl (nx : Nat) (J : Jn) : Jgr nx J J := ⟨Jext.refl J, fun _ _ => rfl⟩
theorem Jgr.set {J : Jn} {b : Nat} {x : Nat × Nat} (h : Jext J (Jset J b x)) : Jgr b J (Jset J b x) := ⟨h, fun c hc => by unfold Jset; rw [if_neg hc]⟩

theorem new_eq {h h' : Hp} {o : AObj} {b : Nat} (hn : h.new o = some (b, h')) : b = h.nx ∧ h.nx < 1000000 ∧ h' = ⟨h.H.upd bits h.nx (some (false, o)), h.nx + 1⟩ := by
  unfold Hp.new at hn
  rw [cond_eq_ite] at hn
  split at hn
  · rename_i hlt
    simp at hn
    exact ⟨hn.1.symm, by simpa [Nat.blt_eq] using hlt, hn.2.symm⟩
  · simp at hn

/-- A new block. -/
theorem HR.new {w0 : World} {J : Jn} {h h' : Hp} {w : World} (hr : HR w0 J h w) {b : Nat} {o : AObj} (hn : h.new o = some (b, h')) (obj : Obj) (K : Nat)
    (hs : Sat (Jset J b (w.heap.size, K)) { w with heap := w.heap.push obj } w.heap.size K o) :
    HR w0 (Jset J b (w.heap.size, K)) h' { w with heap := w.heap.push obj } ∧ Jext J (Jset J b (w.heap.size, K)) := by
  obtain ⟨rfl, hlt, rfl⟩ := new_eq hn
  have hJn := hr.fr h.nx (Nat.le_refl _)
  have hext : Jext J (Jset J h.nx (w.heap.size, K)) := Jset.ext hJn
  refine ⟨?_, hext⟩
  have hfind : ∀ j, (h.H.upd bits h.nx (some (false, o))).find j = if j = h.nx then some (false, o) else h.H.find j := fun j => find_upd (by omega)
  have hJ : ∀ j, Jset J h.nx (w.heap.size, K) j = if j = h.nx then some (w.heap.size, K) else J j := fun j => rfl
  have hold : ∀ i, i < w.heap.size → ({ w with heap := w.heap.push obj } : World).heap[i]? = w.heap[i]? := fun i hi => by
    simp [Array.getElem?_push, Nat.ne_of_lt hi]
  refine ⟨by simp; omega, ?_, ?_, ?_, ?_, ?_, ?_, ?_⟩
  · intro j f x e
    simp only [hfind] at e
    split at e
    · rename_i ej; subst ej; simp
    · have := hr.ent _ _ _ e; simp; omega
  · intro j hj
    simp at hj
    rw [hJ, if_neg (by omega)]
    exact hr.fr _ (by omega)
  · intro j x e
    simp only [hfind] at e
    split at e
    · rename_i ej; subst ej; exact ⟨w.heap.size, K, by simp [Jset]⟩
    · rename_i ej
      obtain ⟨B, K', e'⟩ := hr.real _ _ e
      exact ⟨B, K', hext _ _ e'⟩
  · intro j f x B' K' e ej
    simp only [hfind] at e
    split at e
    · rename_i eb; subst eb
      rw [hJ, if_pos rfl] at ej
      simp at ej e
      obtain ⟨rfl, rfl⟩ := ej
      obtain ⟨_, rfl⟩ := e
      exact hs
    · rename_i eb
      rw [hJ, if_neg eb] at ej
      have hsat := hr.sat _ _ _ _ _ e ej
      exact (hsat.at (hold _ hsat.lt)).mono hext
  · intro i j f f' x x' B' K1 K2 e1 e2 j1 j2
    simp only [hfind] at e1 e2
    rw [hJ] at j1 j2
    split at e1 <;> split at e2
    · rename_i a c; rw [a, c]
    · rename_i a c
      rw [if_pos a] at j1; rw [if_neg c] at j2
      have := (hr.sat _ _ _ _ _ e2 j2).lt
      simp at j1; omega
    · rename_i a c
      rw [if_neg a] at j1; rw [if_pos c] at j2
      have := (hr.sat _ _ _ _ _ e1 j1).lt
      simp at j2; omega
    · rename_i a c
      rw [if_neg a] at j1; rw [if_neg c] at j2
      exact hr.inj _ _ _ _ _ _ _ _ _ e1 e2 j1 j2
  · intro j f x B' K' e ej hx
    simp only [hfind] at e
    rw [hJ] at ej
    split at e
    · rename_i eb
      rw [if_pos eb] at ej
      simp at ej
      have := hr.below.size
      omega
    · rename_i eb
      rw [if_neg eb] at ej
      exact hr.mine _ _ _ _ _ e ej hx
  · have hb := hr.below
    exact ⟨hb.os, hb.tape, hb.output, by simp; have := hb.size; omega, fun k hk => (hold k (by have := hb.size; omega)).trans (hb.block k hk)⟩

/-- What is known of a block is given up. -/
theorem HR.drop {w0 : World} {J : Jn} {h : Hp} {w : World} (hr : HR w0 J h w) {b : Nat} (hb : b < h.nx) : HR w0 J (h.drop b) w := by
  have hnx := hr.nx
  have hfind : ∀ j, (h.drop b).H.find j = if j = b then none else h.H.find j := fun j => by
    unfold Hp.drop; exact find_upd (by omega)
  have sub : ∀ j f x, (h.drop b).H.find j = some (f, x) → h.H.find j = some (f, x) := fun j f x e => by
    rw [hfind] at e; split at e
    · simp at e
    · exact e
  exact ⟨hr.nx, fun j f x e => hr.ent _ _ _ (sub _ _ _ e), hr.fr, fun j x e => hr.real _ _ (sub _ _ _ e), fun j f x B K e => hr.sat _ _ _ _ _ (sub _ _ _ e),
    fun i j f f' x x' B K K' e1 e2 => hr.inj _ _ _ _ _ _ _ _ _ (sub _ _ _ e1) (sub _ _ _ e2), fun j f x B K e => hr.mine _ _ _ _ _ (sub _ _ _ e), hr.below⟩

/-- Only the count of draws has moved. -/
theorem HR.drawn {w0 : World} {J : Jn} {h : Hp} {w w' : World} (hr : HR w0 J h w) (hh : w'.heap = w.heap) (hos : w'.os = w.os) (htape : w'.tape = w.tape) (hout : w'.output = w.output) : HR w0 J h w' :=
  ⟨hr.nx, hr.ent, hr.fr, hr.real, fun j f x B K e ej => (hr.sat _ _ _ _ _ e ej).at (by rw [hh]), hr.inj, hr.mine,
    ⟨hos.trans hr.below.os, htape.trans hr.below.tape, hout.trans hr.below.output, by rw [hh]; exact hr.below.size, fun k hk => by rw [hh]; exact hr.below.block k hk⟩⟩

/-- What was told ahead is there now. -/
theorem HR.realize {w0 : World} {J : Jn} {h : Hp} {w : World} (hr : HR w0 J h w) {b : Nat} {f : Bool} {o : AObj} (hf : h.H.find b = some (f, o)) (hJn : J b = none) (obj : Obj) (K : Nat)
    (hs : Sat (Jset J b (w.heap.size, K)) { w with heap := w.heap.push obj } w.heap.size K o) :
    HR w0 (Jset J b (w.heap.size, K)) h { w with heap := w.heap.push obj } ∧ Jext J (Jset J b (w.heap.size, K)) := by
  have hext : Jext J (Jset J b (w.heap.size, K)) := Jset.ext hJn
  have hb := hr.ent _ _ _ hf
  refine ⟨?_, hext⟩
  have hJ : ∀ j, Jset J b (w.heap.size, K) j = if j = b then some (w.heap.size, K) else J j := fun j => rfl
  have hold : ∀ i, i < w.heap.size → ({ w with heap := w.heap.push obj } : World).heap[i]? = w.heap[i]? := fun i hi => by
    simp [Array.getElem?_push, Nat.ne_of_lt hi]
  refine ⟨hr.nx, hr.ent, ?_, ?_, ?_, ?_, ?_, ?_⟩
  · intro j hj
    rw [hJ, if_neg (by omega)]
    exact hr.fr _ hj
  · intro j x e
    obtain ⟨B, K', e'⟩ := hr.real _ _ e
    exact ⟨B, K', hext _ _ e'⟩
  · intro j f' x B' K' e ej
    rw [hJ] at ej
    split at ej
    · rename_i eb; subst eb
      simp at ej
      obtain ⟨rfl, rfl⟩ := ej
      rw [hf] at e; simp at e
      obtain ⟨_, rfl⟩ := e
      exact hs
    · have hsat := hr.sat _ _ _ _ _ e ej
      exact (hsat.at (hold _ hsat.lt)).mono hext
  · intro i j f1 f2 x1 x2 B' K1 K2 e1 e2 j1 j2
    rw [hJ] at j1 j2
    split at j1 <;> split at j2
    · rename_i a c; rw [a, c]
    · have := (hr.sat _ _ _ _ _ e2 j2).lt
      simp at j1; omega
    · have := (hr.sat _ _ _ _ _ e1 j1).lt
      simp at j2; omega
    · exact hr.inj _ _ _ _ _ _ _ _ _ e1 e2 j1 j2
  · intro j f' x B' K' e ej hx
    rw [hJ] at ej
    split at ej
    · simp at ej
      have := hr.below.size
      omega
    · exact hr.mine _ _ _ _ _ e ej hx
  · have hb := hr.below
    exact ⟨hb.os, hb.tape, hb.output, by simp; have := hb.size; omega, fun k hk => (hold k (by have := hb.size; omega)).trans (hb.block k hk)⟩

/-- The mark on a name is turned. -/
theorem HR.flag {w0 : World} {J : Jn} {h : Hp} {w : World} (hr : HR w0 J h w) {b : Nat} {f : Bool} (hJ : f = false → ∃ x, J b = some x) : HR w0 J (h.flag b f) w := by
  unfold Hp.flag
  split
  · rename_i f0 o hf
    have hb := hr.ent _ _ _ hf
    have hnx := hr.nx
    have hfind : ∀ j, (h.H.upd bits b (some (f, o))).find j = if j = b then some (f, o) else h.H.find j := fun j => find_upd (by omega)
    have old : ∀ j f' x, (h.H.upd bits b (some (f, o))).find j = some (f', x) → ∃ f'', h.H.find j = some (f'', x) := by
      intro j f' x e
      rw [hfind] at e
      split at e
      · rename_i ej; subst ej; simp at e; exact ⟨f0, by rw [hf, e.2]⟩
      · exact ⟨f', e⟩
    refine ⟨hr.nx, fun j f' x e => ?_, hr.fr, ?_, fun j f' x B K e ej => ?_, fun i j f1 f2 x1 x2 B K K' e1 e2 j1 j2 => ?_, fun j f' x B K e ej hx => ?_, hr.below⟩
    · obtain ⟨f'', e'⟩ := old _ _ _ e; exact hr.ent _ _ _ e'
    · intro j x e
      simp only [hfind] at e
      split at e
      · rename_i ej; subst ej
        simp at e
        obtain ⟨⟨B, K⟩, ex⟩ := hJ e.1
        exact ⟨B, K, ex⟩
      · exact hr.real _ _ e
    · obtain ⟨f'', e'⟩ := old _ _ _ e; exact hr.sat _ _ _ _ _ e' ej
    · obtain ⟨g1, a1⟩ := old _ _ _ e1
      obtain ⟨g2, a2⟩ := old _ _ _ e2
      exact hr.inj _ _ _ _ _ _ _ _ _ a1 a2 j1 j2
    · obtain ⟨f'', e'⟩ := old _ _ _ e; exact hr.mine _ _ _ _ _ e' ej hx
  · exact hr

theorem flag_find {h : Hp} (hnx : h.nx ≤ 1000000) (hent : ∀ b f o, h.H.find b = some (f, o) → b < h.nx) {b c : Nat} {f g : Bool} {o : AObj} (e : h.H.find c = some (g, o)) : (h.flag b f).H.find c = some (if c = b then f else g, o) := by
  unfold Hp.flag
  split
  · rename_i f0 o0 hf
    have := hent _ _ _ hf
    show (h.H.upd bits b _).find c = _
    rw [find_upd (by omega)]
    split
    · rename_i ec; subst ec; rw [hf] at e; simp at e; rw [e.2]
    · exact e
  · rename_i hf
    by_cases ec : c = b
    · subst ec; rw [hf] at e; simp at e
    · rw [if_neg ec]; exact e

theorem flag_nx {h : Hp} {b : Nat} {f : Bool} : (h.flag b f).nx = h.nx := by
  unfold Hp.flag; split <;> rfl

/-- A name is told ahead: its block is not there yet. -/
theorem HR.reserve {w0 : World} {J : Jn} {h h' : Hp} {w : World} (hr : HR w0 J h w) {b : Nat} {o : AObj} (hn : h.new o = some (b, h')) : HR w0 J (h'.flag b true) w ∧ (h'.flag b true).H.find b = some (true, o) := by
  obtain ⟨rfl, hlt, rfl⟩ := new_eq hn
  have hJn := hr.fr h.nx (Nat.le_refl _)
  have hf1 : ∀ j, (h.H.upd bits h.nx (some (false, o))).find j = if j = h.nx then some (false, o) else h.H.find j := fun j => find_upd (by omega)
  have hself : (h.H.upd bits h.nx (some (false, o))).find h.nx = some (false, o) := by rw [hf1, if_pos rfl]
  have hfl : (⟨h.H.upd bits h.nx (some (false, o)), h.nx + 1⟩ : Hp).flag h.nx true = ⟨(h.H.upd bits h.nx (some (false, o))).upd bits h.nx (some (true, o)), h.nx + 1⟩ := by
    unfold Hp.flag; rw [hself]
  rw [hfl]
  have hfind : ∀ j, ((h.H.upd bits h.nx (some (false, o))).upd bits h.nx (some (true, o))).find j = if j = h.nx then some (true, o) else h.H.find j := fun j => by
    rw [find_upd (by omega)]
    split
    · rfl
    · rename_i e; rw [hf1, if_neg e]
  refine ⟨⟨by simp; omega, ?_, ?_, ?_, ?_, ?_, ?_, hr.below⟩, by simp [hfind]⟩
  · intro j f x e
    simp only [hfind] at e
    split at e
    · rename_i ej; subst ej; simp
    · have := hr.ent _ _ _ e; simp; omega
  · intro j hj
    simp at hj
    exact hr.fr _ (by omega)
  · intro j x e
    simp only [hfind] at e
    split at e
    · simp at e
    · exact hr.real _ _ e
  · intro j f x B K e ej
    simp only [hfind] at e
    split at e
    · rename_i eb; subst eb; rw [hJn] at ej; simp at ej
    · exact hr.sat _ _ _ _ _ e ej
  · intro i j f1 f2 x1 x2 B K K' e1 e2 j1 j2
    simp only [hfind] at e1 e2
    split at e1
    · rename_i eb; subst eb; rw [hJn] at j1; simp at j1
    · split at e2
      · rename_i eb; subst eb; rw [hJn] at j2; simp at j2
      · exact hr.inj _ _ _ _ _ _ _ _ _ e1 e2 j1 j2
  · intro j f x B K e ej hx
    simp only [hfind] at e
    split at e
    · rename_i eb; subst eb; rw [hJn] at ej; simp at ej
    · exact hr.mine _ _ _ _ _ e ej hx

/-- A block's name is exchanged, as it is written in place. -/
theorem HR.rename {w0 : World} {J : Jn} {h h' : Hp} {w w' : World} (hr : HR w0 J h w) {b nb : Nat} {o o' : AObj} {B K : Nat} (hg : h.get b = some o) (hJ : J b = some (B, K)) (h1 : isRo o = false)
    (hn : (h.drop b).new o' = some (nb, h')) (hw : ∀ i, i ≠ B → w'.heap[i]? = w.heap[i]?) (hsz : w'.heap.size = w.heap.size) (hos : w'.os = w.os) (htape : w'.tape = w.tape)
    (hout : w'.output = w.output) (hs : Sat (Jset J nb (B, K)) w' B K o') : HR w0 (Jset J nb (B, K)) h' w' ∧ Jext J (Jset J nb (B, K)) := by
  have hf := get_eq.1 hg
  have hbn : b < h.nx := hr.ent _ _ _ hf
  have hnx := hr.nx
  obtain ⟨e1, e2, e3⟩ := new_eq hn
  have hnb : nb = h.nx := e1
  have hlt : h.nx < 1000000 := e2
  subst hnb
  have hJn := hr.fr h.nx (Nat.le_refl _)
  have hext : Jext J (Jset J h.nx (B, K)) := Jset.ext hJn
  refine ⟨?_, hext⟩
  have hfind : ∀ j, h'.H.find j = if j = h.nx then some (false, o') else if j = b then none else h.H.find j := fun j => by
    rw [e3]
    show ((h.drop b).H.upd bits h.nx (some (false, o'))).find j = _
    rw [find_upd (by omega)]
    split
    · rfl
    · unfold Hp.drop; exact find_upd (by omega)
  have hnx' : h'.nx = h.nx + 1 := by rw [e3]; rfl
  have hJ' : ∀ j, Jset J h.nx (B, K) j = if j = h.nx then some (B, K) else J j := fun j => rfl
  have hmine := hr.mine _ _ _ _ _ hf hJ h1
  refine ⟨by omega, ?_, ?_, ?_, ?_, ?_, ?_, ?_⟩
  · intro j f x e
    rw [hfind] at e
    split at e
    · omega
    · split at e
      · simp at e
      · have := hr.ent _ _ _ e; omega
  · intro j hj
    rw [hJ', if_neg (by omega)]
    exact hr.fr _ (by omega)
  · intro j x e
    rw [hfind] at e
    split at e
    · rename_i ej; exact ⟨B, K, by rw [hJ', if_pos ej]⟩
    · split at e
      · simp at e
      · obtain ⟨B', K', e'⟩ := hr.real _ _ e
        exact ⟨B', K', hext _ _ e'⟩
  · intro j f x B' K' e ej
    rw [hfind] at e
    rw [hJ'] at ej
    split at e
    · rename_i eb
      rw [if_pos eb] at ej
      simp at ej e
      obtain ⟨rfl, rfl⟩ := ej
      obtain ⟨_, rfl⟩ := e
      exact hs
    · rename_i eb
      rw [if_neg eb] at ej
      split at e
      · simp at e
      · rename_i en
        have hsat := hr.sat _ _ _ _ _ e ej
        refine (hsat.at (hw _ ?_)).mono hext
        rintro rfl
        exact en (hr.inj _ _ _ _ _ _ _ _ _ e hf ej hJ)
  · intro i j f f' x x' B' K1 K2 e1 e2 j1 j2
    rw [hfind] at e1 e2
    rw [hJ'] at j1 j2
    split at e1 <;> split at e2
    · rename_i a c; rw [a, c]
    · rename_i a c
      rw [if_pos a] at j1; rw [if_neg c] at j2
      split at e2
      · simp at e2
      · rename_i en
        simp at j1
        obtain ⟨rfl, rfl⟩ := j1
        exact (en (hr.inj _ _ _ _ _ _ _ _ _ e2 hf j2 hJ)).elim
    · rename_i a c
      rw [if_neg a] at j1; rw [if_pos c] at j2
      split at e1
      · simp at e1
      · rename_i en
        simp at j2
        obtain ⟨rfl, rfl⟩ := j2
        exact (en (hr.inj _ _ _ _ _ _ _ _ _ e1 hf j1 hJ)).elim
    · rename_i a c
      rw [if_neg a] at j1; rw [if_neg c] at j2
      split at e1
      · simp at e1
      · split at e2
        · simp at e2
        · exact hr.inj _ _ _ _ _ _ _ _ _ e1 e2 j1 j2
  · intro j f x B' K' e ej hx
    rw [hfind] at e
    rw [hJ'] at ej
    split at e
    · rename_i eb
      rw [if_pos eb] at ej
      simp at ej
      omega
    · rename_i eb
      rw [if_neg eb] at ej
      split at e
      · simp at e
      · exact hr.mine _ _ _ _ _ e ej hx
  · have hb := hr.below
    exact ⟨hos.trans hb.os, htape.trans hb.tape, hout.trans hb.output, by rw [hsz]; exact hb.size, fun k hk => (hw k (by omega)).trans (hb.block k hk)⟩

end Go.Ev
