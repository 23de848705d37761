/- An evaluator of the model's steps over names of blocks: definitions alone, nothing is proved here. -/
import GoSem.Step
set_option linter.unusedSimpArgs false
set_option linter.unusedVariables false
set_option linter.constructorNameAsVariable false
namespace Go.Ev

/-! Tries over numbers. -/
inductive Tr (α : Type) where
  | nil
  | node (x : Option α) (l r : Tr α)

def Tr.find {α : Type} : Tr α → Nat → Option α
  | .nil, _ => none
  | .node x l r, k => bif k.beq 0 then x else bif (k % 2).beq 1 then l.find (k / 2) else r.find (k / 2 - 1)

def Tr.upd {α : Type} : Nat → Tr α → Nat → Option α → Tr α
  | 0, t, _, _ => t
  | f + 1, .nil, k, v =>
    bif k.beq 0 then .node v .nil .nil else bif (k % 2).beq 1 then .node none (Tr.upd f .nil (k / 2) v) .nil else .node none .nil (Tr.upd f .nil (k / 2 - 1) v)
  | f + 1, .node x l r, k, v =>
    bif k.beq 0 then .node v l r else bif (k % 2).beq 1 then .node x (Tr.upd f l (k / 2) v) r else .node x l (Tr.upd f r (k / 2 - 1) v)

/-- Values whose addresses are names of blocks. -/
inductive AV where
  | v (x : Value)
  | ptr (b off : Nat)
  | sl (b off len cap : Nat)
  | slu (b adj len sz : Nat)
  | sle (b : Nat)
  | map (b : Nat)
  | func (fn : Fn) (first captured : List AV)
  | yield (b : Nat)
  | iface (t : TypeId) (x : AV)
  | agg (l : List AV)
  | tup (l : List AV)
  | oi (k : IntKind) (i : Nat)
  | osl (i : Nat)

structure ADef where
  fn : Fn
  captured : List AV
  args : List AV

inductive ATgt where
  | fn (f : Fn) (captured : List AV) (args : List AV)
  | yield (b : Nat) (args : List AV)
  | collected (b : Nat)

inductive AObj where
  | ro (l : List AV)
  | cells (l : List AV) (e : TypeId)
  | row (l : List AV) (e : TypeId) (sz : Nat) (mark : Bool)
  | map (es : List (AV × AV × Nat)) (clock : Nat)
  | mapIter (m : Option Nat) (since : Nat) (seen : List Nat) (stepped : Nat)
  | strIter (s : ByteArray) (pos : Nat)
  | loop (st : LoopState) (pending : Option Code) (fn : FuncId) (T : Tr AV) (n : Nat) (params : List Tmp) (assign body : Code) (defers : Nat)
  | deferred (calls : Option (List ATgt))

structure Hp where
  H : Tr (Bool × AObj)
  nx : Nat

inductive AOut where
  | value (v : AV)
  | skip
  | enter (f : FuncId) (args : List AV)
  | defer (d : ATgt)
  | recover
  | round (l : Nat) (f : FuncId) (T : Tr AV) (n : Nat) (assign body : Code)
  | spec (f : FuncId) (args : List AV) (v : Value)

def bits : Nat := 30

def U : AV := .v (.tuple #[])

/-! Address-free values. -/
mutual
def AV.pure? : AV → Option Value
  | .v x => some x
  | .func fn f c => match AV.pures? f with
    | some f => match AV.pures? c with
      | some c => some (.func fn f.toArray c.toArray)
      | none => none
    | none => none
  | .iface t x => match x.pure? with
    | some x => some (.iface t x)
    | none => none
  | .agg l => match AV.pures? l with
    | some l => some (.agg l.toArray)
    | none => none
  | .tup l => match AV.pures? l with
    | some l => some (.tuple l.toArray)
    | none => none
  | _ => none
def AV.pures? : List AV → Option (List Value)
  | [] => some []
  | x :: l => match x.pure? with
    | some x => match AV.pures? l with
      | some l => some (x :: l)
      | none => none
    | none => none
end

/-- A reckoning that asks memory nothing. -/
def pureRun {α : Type} (P : Program) : Sem α → Option α
  | .pure a => some a
  | .program k => pureRun P (k P)
  | .mark _ k => pureRun P k
  | _ => none

def AV.cells : AV → List AV
  | .agg l => l
  | .v (.agg cs) => cs.toList.map .v
  | x => [x]

def isCell : AV → Bool
  | .agg _ | .tup _ | .v (.agg _) | .v (.tuple _) => false
  | _ => true

def allCells : List AV → Bool
  | [] => true
  | x :: l => isCell x && allCells l

def sizeOf? (P : Program) (t : TypeId) : Option Nat := match P.info? t with
  | some i => some i.size
  | none => none

def bytesOf? (P : Program) (t : TypeId) : Option Nat := match P.info? t with
  | some i => some i.bytes
  | none => none

def isAgg? (P : Program) (t : TypeId) : Option Bool := match P.underlying t with
  | some (.struct _) => some true
  | some (.array _ _) => some true
  | some _ => some false
  | none => none

def zero? (P : Program) (t : TypeId) : Option Value := match P.info? t with
  | some i => i.zero
  | none => none

/-- The first n of a list behind the first k; there must be so many. -/
def takeN {α : Type} : Nat → List α → Option (List α)
  | 0, _ => some []
  | _ + 1, [] => none
  | n + 1, x :: l => match takeN n l with
    | some r => some (x :: r)
    | none => none

def seg {α : Type} (l : List α) (off n : Nat) : Option (List α) := takeN n (l.drop off)

/-- Writes some cells over others; there must be room. -/
def splice {α : Type} (l : List α) (off : Nat) (new : List α) : Option (List α) :=
  bif Nat.ble (off + new.length) l.length then some (l.take off ++ new ++ l.drop (off + new.length)) else none

def part? (P : Program) (t : TypeId) (cs : List AV) (off : Nat) : Option AV :=
  match isAgg? P t with
  | some true => match sizeOf? P t with
    | some n => match seg cs off n with
      | some l => some (.agg l)
      | none => none
    | none => none
  | some false => match cs.drop off with
    | x :: _ => some x
    | [] => none
  | none => none

def Hp.get (h : Hp) (b : Nat) : Option AObj := match h.H.find b with
  | some (false, o) => some o
  | _ => none

def Hp.put (h : Hp) (b : Nat) (o : AObj) : Hp := ⟨h.H.upd bits b (some (false, o)), h.nx⟩

def Hp.drop (h : Hp) (b : Nat) : Hp := ⟨h.H.upd bits b none, h.nx⟩

def Hp.new (h : Hp) (o : AObj) : Option (Nat × Hp) :=
  bif Nat.blt h.nx 1000000 then some (h.nx, ⟨h.H.upd bits h.nx (some (false, o)), h.nx + 1⟩) else none

/-- The known cells of a block. -/
def Hp.cells (h : Hp) (b : Nat) : Option (List AV) := match h.get b with
  | some (.ro l) => some l
  | some (.cells l _) => some l
  | some (.row l _ _ _) => some l
  | _ => none

def Hp.setCells (h : Hp) (b : Nat) (l : List AV) : Option Hp := match h.get b with
  | some (.cells _ e) => some (h.put b (.cells l e))
  | some (.row _ e sz false) => some (h.put b (.row l e sz false))
  | _ => none

def load? (P : Program) (h : Hp) (t : TypeId) (a : AV) : Option AV := match a with
  | .ptr b off => match h.cells b with
    | some l => part? P t l off
    | none => none
  | _ => none

def store? (P : Program) (h : Hp) (t : TypeId) (a x : AV) : Option Hp := match a with
  | .ptr b off => match h.cells b with
    | some l => match sizeOf? P t with
      | some n =>
        bif (x.cells.length.beq n && allCells x.cells) then
          match splice l off x.cells with
          | some l => h.setCells b l
          | none => none
        else none
      | none => none
    | none => none
  | _ => none

def asInt? : AV → Option Int
  | .v (.int _ n) => some n
  | _ => none

def asNat? : AV → Option Nat
  | .v (.int _ (.ofNat n)) => some n
  | _ => none

def asBool? : AV → Option Bool
  | .v (.bool b) => some b
  | _ => none

/-- A slice: its block, the place of its first cell, its length; its capacity, or by how much it is less than the block's. -/
structure SlV where
  b : Nat
  off : Nat
  len : Nat
  cap : Nat
  u : Bool
  sz : Nat

def slice? : AV → Option (Option SlV)
  | .v (.slice none 0 0) => some none
  | .sl b off len cap => some (some ⟨b, off, len, cap, false, 0⟩)
  | .slu b adj len sz => some (some ⟨b, adj * sz, len, adj, true, sz⟩)
  | _ => none

def nextBound (need : Nat) : Nat := 2 * need + 2000

/-- What is appended: its cells, and how many elements. -/
def appended? (h : Hp) (size : Nat) (x : AV) : Option (List AV × Nat) := match x with
  | .sle _ => some ([], 0)
  | .v (.string s) => bif size.beq 1 then some (s.data.toList.map fun b => .v (.int .u8 b.toNat), s.size) else none
  | _ => match slice? x with
    | some none => some ([], 0)
    | some (some s) => match h.cells s.b with
      | some l => match seg l s.off (s.len * size) with
        | some l => some (l, s.len)
        | none => none
      | none => none
    | none => none

def append? (P : Program) (h : Hp) (argTypes : Array TypeId) (args : List AV) : Option (AV × Hp) :=
  match argTypes[0]?, argTypes[1]?, args with
  | some st, some xt, [s, x] => match P.underlying st, P.underlying xt with
    | some (.slice elem), some xd => match sizeOf? P elem, bytesOf? P elem, zero? P elem, (match xd with | .int _ => false | _ => true) with
      | some size, some bytes, some z, true => match appended? h size x with
        | some (new, n) => match slice? s with
          | some none =>
            bif n.beq 0 then some (.v (.slice none 0 0), h) else
            bif (Nat.ble (nextBound n * bytes) (2 ^ 40) && allCells new && Nat.blt 0 bytes && (AV.v z).cells.length.beq size) then
              match h.new (.row new elem size false) with
              | some (b, h) => some (.slu b 0 n size, h)
              | none => none
            else none
          | some (some sv) =>
            let need := sv.len + n
            bif (Nat.ble (nextBound need * bytes) (2 ^ 40) && allCells new && Nat.blt 0 bytes && (AV.v z).cells.length.beq size) then
              bif sv.u then
                match h.get sv.b with
                | some (.row l e sz false) =>
                  bif (sv.cap.beq 0 && sv.sz.beq size && sz.beq size && e.beq elem) then
                    match seg l 0 (sv.len * size) with
                    | some old =>
                      match (h.drop sv.b).new (.row (old ++ new) elem size false) with
                      | some (b, h) => some (.slu b 0 need size, h)
                      | none => none
                    | none => none
                  else none
                | _ => none
              else
                match h.cells sv.b with
                | some l => bif Nat.ble need sv.cap then
                    match splice l (sv.off + sv.len * size) new with
                    | some l => match h.setCells sv.b l with
                      | some h => some (.sl sv.b sv.off need sv.cap, h)
                      | none => none
                    | none => none
                  else match seg l sv.off (sv.len * size) with
                    | some old => match h.new (.row (old ++ new) elem size false) with
                      | some (b, h) => some (.slu b 0 need size, h)
                      | none => none
                    | none => none
                | none => none
            else none
          | none => none
        | none => none
      | _, _, _, _ => none
    | _, _ => none
  | _, _, _ => none

def copy? (P : Program) (h : Hp) (argTypes : Array TypeId) (args : List AV) : Option (AV × Hp) :=
  match argTypes[0]?, args with
  | some dt, [d, x] => match P.underlying dt with
    | some (.slice elem) => match sizeOf? P elem with
      | some size => match appended? h size x with
        | some (cs, m) => match slice? d with
          | some none => some (.v (.int .i64 0), h)
          | some (some sv) =>
            let n := Nat.min m sv.len
            match takeN (n * size) cs, h.cells sv.b with
            | some cs, some l => bif allCells cs then match splice l sv.off cs with
              | some l => match h.setCells sv.b l with
                | some h => some (.v (.int .i64 n), h)
                | none => none
              | none => none else none
            | _, _ => none
          | none => none
        | none => none
      | none => none
    | _ => none
  | _, _ => none

def bound? (x : Option AV) (y : Nat) (d : Nat) : Option Nat := match x with
  | none => some d
  | some x => match asNat? x with
    | some i => bif Nat.ble i y then some i else none
    | none => none

/-- Slices of slices, and of arrays behind pointers. -/
def slice1? (P : Program) (h : Hp) (t : TypeId) (x : AV) (lo hi mx : Option AV) : Option AV :=
  match P.underlying t, x with
    | some (.slice elem), .sle b => match sizeOf? P elem, mx, bound? hi 0 0, bound? lo 0 0 with
      | some _, none, some _, some _ => some (.sle b)
      | _, _, _, _ => none
    | some (.slice elem), x => match sizeOf? P elem, slice? x with
      | some _, some none => match mx, bound? hi 0 0, bound? lo 0 0 with
        | none, some _, some _ => some (.v (.slice none 0 0))
        | _, _, _ => none
      | some size, some (some s) =>
        bif s.u then
          match h.get s.b with
          | some (.row l _ sz _) =>
            bif (sz.beq size && s.sz.beq size && Nat.blt 0 size) then
              match mx with
              | none => match bound? hi (l.length / size - s.cap) s.len with
                | some hh => match bound? lo hh 0 with
                  | some ll => bif (ll.beq 0 || Nat.blt (s.cap + ll) (l.length / size)) then some (.slu s.b (s.cap + ll) (hh - ll) size) else
                    bif ll.beq hh then some (.sle s.b) else none
                  | none => none
                | none => none
              | some m => match hi, bound? (some m) (l.length / size - s.cap) 0 with
                | some hi, some mm => match bound? (some hi) mm 0 with
                  | some hh => match bound? lo hh 0 with
                    | some ll => some (.sl s.b (bif mm.beq ll then s.off else s.off + ll * size) (hh - ll) (mm - ll))
                    | none => none
                  | none => none
                | _, _ => none
            else none
          | _ => none
        else match mx with
          | none => match bound? hi s.cap s.len with
            | some hh => match bound? lo hh 0 with
              | some ll => some (.sl s.b (bif s.cap.beq ll then s.off else s.off + ll * size) (hh - ll) (s.cap - ll))
              | none => none
            | none => none
          | some m => match hi, bound? (some m) s.cap 0 with
            | some hi, some mm => match bound? (some hi) mm 0 with
              | some hh => match bound? lo hh 0 with
                | some ll => some (.sl s.b (bif mm.beq ll then s.off else s.off + ll * size) (hh - ll) (mm - ll))
                | none => none
              | none => none
            | _, _ => none
      | _, _ => none
    | some (.array n elem), .ptr b off => match mx, sizeOf? P elem, bound? hi n n with
      | none, some size, some hh => match bound? lo hh 0 with
          | some ll => some (.sl b (bif n.beq ll then off else off + ll * size) (hh - ll) (n - ll))
          | none => none
      | _, _, _ => none
    | some (.pointer arr), .ptr b off => match P.underlying arr with
      | some (.array n elem) => match mx, sizeOf? P elem, bound? hi n n with
        | none, some size, some hh => match bound? lo hh 0 with
            | some ll => some (.sl b (bif n.beq ll then off else off + ll * size) (hh - ll) (n - ll))
            | none => none
        | _, _, _ => none
      | _ => none
    | _, _ => none

def indexAddr? (P : Program) (t : TypeId) (x i : AV) : Option AV := match asNat? i with
  | some i => match P.underlying t with
    | some (.array n elem) => match x, sizeOf? P elem with
      | .ptr b off, some size => bif Nat.blt i n then some (.ptr b (off + i * size)) else none
      | _, _ => none
    | some (.slice elem) => match slice? x, sizeOf? P elem with
      | some (some s), some size => bif Nat.blt i s.len then some (.ptr s.b (s.off + i * size)) else none
      | _, _ => none
    | _ => none
  | none => none

def fieldAddr? (P : Program) (s : TypeId) (x : AV) (i : Nat) : Option AV := match P.underlying s, x with
  | some (.struct fs), .ptr b off => match fs[i]? with
    | some f => match sizeOf? P f.type with
      | some 0 => none
      | some _ => some (.ptr b (off + f.offset))
      | none => none
    | none => none
  | _, _ => none

def field? (P : Program) (s : TypeId) (x : AV) (i : Nat) : Option AV := match P.underlying s, x with
  | some (.struct fs), .agg l => match fs[i]? with
    | some f => part? P f.type l f.offset
    | none => none
  | some (.struct fs), .v (.agg cs) => match fs[i]? with
    | some f => part? P f.type (cs.toList.map .v) f.offset
    | none => none
  | _, _ => none

def index? (P : Program) (t : TypeId) (x i : AV) : Option AV := match P.underlying t, x, asNat? i with
  | some (.array n elem), .agg l, some i => match sizeOf? P elem with
    | some size => bif Nat.blt i n then part? P elem l (i * size) else none
    | none => none
  | _, _, _ => none

/-- Values put into the cells of a struct, an array, a slice's row. -/
def fill? (place : Nat → Option (Nat × Nat)) (cells : List AV) : List (Nat × AV) → Option (List AV)
  | [] => some cells
  | (i, v) :: rest => match place i with
    | some (off, size) =>
      bif v.cells.length.beq size then match splice cells off v.cells with
        | some cells => fill? place cells rest
        | none => none
      else none
    | none => none

def repl {α : Type} : Nat → List α → List α
  | 0, _ => []
  | n + 1, l => l ++ repl n l

def places? (P : Program) : List Field → Option (List (Nat × Nat))
  | [] => some []
  | f :: fs => match sizeOf? P f.type, places? P fs with
    | some n, some r => some ((f.offset, n) :: r)
    | _, _ => none

def build? (P : Program) (t : TypeId) (parts : List (Nat × AV)) : Option AV := match zero? P t, P.underlying t with
  | some z, some (.struct fs) => match places? P fs.toList with
    | some ps => match fill? (fun i => ps[i]?) ((AV.v z).cells) parts with
      | some l => some (.agg l)
      | none => none
    | none => none
  | some z, some (.array _ elem) => match sizeOf? P elem with
    | some size => match fill? (fun i => some (i * size, size)) ((AV.v z).cells) parts with
      | some l => some (.agg l)
      | none => none
    | none => none
  | _, _ => none

def buildSlice? (P : Program) (h : Hp) (t : TypeId) (len : Nat) (parts : List (Nat × AV)) : Option (AV × Hp) := match P.underlying t with
  | some (.slice elem) => match sizeOf? P elem with
    | some size => bif Nat.ble (len * size) 4096 then match zero? P elem with
        | some z =>
          match fill? (fun i => some (i * size, size)) (bif (len * size).beq 0 then [] else repl len ((AV.v z).cells)) parts with
          | some l => bif (l.length.beq (len * size) && (AV.v z).cells.length.beq size) then match h.new (.cells l elem) with
            | some (b, h) => some (.sl b 0 len len, h)
            | none => none
            else none
          | none => none
        | none => none
      else none
    | none => none
  | _ => none

def makeSlice? (P : Program) (h : Hp) (t : TypeId) (l c : AV) : Option (AV × Hp) := match P.underlying t, asNat? l, asNat? c with
  | some (.slice elem), some l, some c => match sizeOf? P elem, bytesOf? P elem, zero? P elem with
    | some size, some bytes, some z =>
      bif (Nat.ble l c && Nat.ble c 4096 && Nat.ble bytes 4096 && (AV.v z).cells.length.beq size && Nat.blt 0 size) then
        match h.new (.cells (repl c ((AV.v z).cells)) elem) with
        | some (b, h) => some (.sl b 0 l c, h)
        | none => none
      else none
    | _, _, _ => none
  | _, _, _ => none

/-! Maps. -/
def afindNow (kind : TypeDesc) (k : Value) : List (AV × AV × Nat) → Nat → Option (Option (Nat × AV))
  | [], _ => some none
  | (.v k', x, _) :: es, i => match Instr.sameNow kind k k' with
    | some true => some (some (i, x))
    | some false => afindNow kind k es (i + 1)
    | none => none
  | _, _ => none

/-- The keys that are told, as they are in memory. -/
def keys? : List (AV × AV × Nat) → Option (List MapEntry)
  | [] => some []
  | (k, _, n) :: es => match k.pure? with
    | some k => match keys? es with
      | some es => some (⟨k, .tuple #[], n⟩ :: es)
      | none => none
    | none => none

def afind (P : Program) (kt : TypeId) (k : Value) (es : List (AV × AV × Nat)) : Option (Option (Nat × AV)) := match keys? es with
  | some ks => match pureRun P (Instr.findKey kt k ks) with
    | some none => some none
    | some (some (i, _)) => match es[i]? with
      | some (_, x, _) => some (some (i, x))
      | none => none
    | none => none
  | none => none

def mapOf? (h : Hp) (m : AV) : Option (List (AV × AV × Nat) × Nat) := match m with
  | .v (.map none) => some ([], 0)
  | .map b => match h.get b with
    | some (.map es c) => some (es, c)
    | _ => none
  | _ => none

def lookup? (P : Program) (h : Hp) (t : TypeId) (m k : AV) (ok : Bool) : Option AV := match P.underlying t, mapOf? h m, k.pure? with
  | some (.map kt et), some (es, _), some k => match pureRun P (Instr.checkKey es.isEmpty 10000 kt k) with
    | some () => match afind P kt k es with
      | some (some (_, x)) => some (bif ok then .tup [x, .v (.bool true)] else x)
      | some none => match zero? P et with
        | some z => some (bif ok then .tup [.v z, .v (.bool false)] else .v z)
        | none => none
      | none => none
    | none => none
  | _, _, _ => none

def setAt {α : Type} : List α → Nat → α → List α
  | [], _, _ => []
  | _ :: l, 0, y => y :: l
  | x :: l, n + 1, y => x :: setAt l n y

def mapUpdate? (P : Program) (h : Hp) (t : TypeId) (m k x : AV) : Option Hp := match P.underlying t, m, k.pure? with
  | some (.map kt _), .map b, some kv => match h.get b with
    | some (.map es c) => match pureRun P (Instr.checkKey false 10000 kt kv) with
      | some () => match afind P kt kv es with
        | some (some (i, _)) => match es[i]? with
          | some (k', _, n) => match k'.pure? with
            | some k' => bif Instr.sameBits 10000 k' kv then some (h.put b (.map (setAt es i (.v kv, x, n)) c)) else none
            | none => none
          | none => none
        | some none => some (h.put b (.map (es ++ [(.v kv, x, c)]) (c + 1)))
        | none => none
      | none => none
    | _ => none
  | _, _, _ => none

def delete? (P : Program) (h : Hp) (argTypes : Array TypeId) (args : List AV) : Option Hp := match argTypes[0]?, args with
  | some t, [.map b, k] => match P.underlying t, k.pure? with
    | some (.map kt _), some kv => match h.get b with
      | some (.map es c) => match pureRun P (Instr.checkKey es.isEmpty 10000 kt kv) with
        | some () => match afind P kt kv es with
          | some (some (i, _)) => some (h.put b (.map (es.eraseIdx i) c))
          | some none => some h
          | none => none
        | none => none
      | _ => none
    | _, _ => none
  | _, _ => none

def range? (P : Program) (h : Hp) (t : TypeId) (x : AV) : Option (AV × Hp) := match P.underlying t, x with
  | some .string, .v (.string s) => match h.new (.strIter s 0) with
    | some (b, h) => some (.ptr b 0, h)
    | none => none
  | some (.map _ _), .v (.map none) => match h.new (.mapIter none 0 [] 0) with
    | some (b, h) => some (.ptr b 0, h)
    | none => none
  | some (.map _ _), .map m => match h.get m with
    | some (.map _ c) => match h.new (.mapIter (some m) c [] c) with
      | some (b, h) => some (.ptr b 0, h)
      | none => none
    | _ => none
  | _, _ => none

/-- Steps of an iterator: over a string; over a map of which at most one entry is left. -/
def next? (h : Hp) (it : AV) (isString : Bool) : Option (AV × Hp) := match it with
  | .ptr r 0 => match h.get r, isString with
    | some (.strIter s pos), true =>
      bif Nat.blt pos s.size then
        match Utf8.decode s pos with
        | (c, w) => some (.v (.tuple #[.bool true, .int .i64 pos, .int .i32 c]), h.put r (.strIter s (pos + w)))
      else some (.v (.tuple #[.bool false]), h)
    | some (.mapIter none _ _ _), false => some (.v (.tuple #[.bool false]), h)
    | some (.mapIter (some m) since seen last), false => match h.get m with
      | some (.map es clock) =>
        bif (!seen.isEmpty && !es.isEmpty && es.all fun e => Nat.ble last e.2.2) then none else
        match es.filter fun e => !seen.contains e.2.2 with
        | [] => some (.v (.tuple #[.bool false]), h)
        | [(k, x, n)] => bif Nat.blt n since then some (.tup [.v (.bool true), k, x], h.put r (.mapIter (some m) since (seen ++ [n]) clock)) else none
        | _ => none
      | _ => none
    | _, _ => none
  | _ => none

def entry? (h : Hp) (it : AV) : Option AV := match it with
  | .ptr r 0 => match h.get r with
    | some (.mapIter (some m) _ seen stepped) => match seen.getLast?, h.get m with
      | some stamp, some (.map es clock) =>
        bif clock.beq stepped then match es.find? fun e => e.2.2 == stamp with
          | some (k, x, _) => some (.tup [k, x])
          | none => none
        else none
      | _, _ => none
    | _ => none
  | _ => none

/-! Equality where an operand bears an address. -/
def isNilOf : AV → Bool
  | .v (.pointer none) | .v (.slice none _ _) | .v (.map none) | .v .nilFunc | .v .nilIface => true
  | _ => false

def aeq? (P : Program) (t : TypeId) (x y : AV) : Option Bool := match P.underlying t with
  | some (.pointer e) => match x, y with
    | .ptr _ _, .v (.pointer none) => some false
    | .v (.pointer none), .ptr _ _ => some false
    | .ptr b o, .ptr b' o' => match sizeOf? P e with
      | some 0 => none
      | some _ => bif b.beq b' then some (o.beq o') else none
      | none => none
    | _, _ => none
  | some (.slice _) => match x, y with
    | .sl _ _ _ _, .v (.slice none _ _) => some false
    | .slu _ _ _ _, .v (.slice none _ _) => some false
    | .sle _, .v (.slice none _ _) => some false
    | .v (.slice none _ _), .sle _ => some false
    | .v (.slice none _ _), .sl _ _ _ _ => some false
    | .v (.slice none _ _), .slu _ _ _ _ => some false
    | _, _ => none
  | some (.map _ _) => match x, y with
    | .map _, .v (.map none) => some false
    | .v (.map none), .map _ => some false
    | _, _ => none
  | some (.func _ _ _) => match x, y with
    | .func _ _ _, .v .nilFunc => some false
    | .v .nilFunc, .func _ _ _ => some false
    | _, _ => none
  | _ => none

/-! Bytes. -/
def bytes? : List AV → ByteArray → Option ByteArray
  | [], acc => some acc
  | .v (.int .u8 n) :: l, acc => bytes? l (acc.push (UInt8.ofNat n.toNat))
  | _, _ => none

/-- A slice of bytes as a string. -/
def bytesString? (P : Program) (h : Hp) (s d : TypeId) (x : AV) : Option AV := match P.underlying s, P.underlying d with
  | some (.slice e), some .string => match P.underlying e, slice? x with
    | some (.int .u8), some none => some (.v (.string ByteArray.empty))
    | some (.int .u8), some (some sv) => match h.cells sv.b with
      | some l => match seg l sv.off sv.len with
        | some l => match bytes? l ByteArray.empty with
          | some str => some (.v (.string str))
          | none => none
        | none => none
      | none => none
    | _, _ => none
  | _, _ => none

def convert? (P : Program) (h : Hp) (s d : TypeId) (x : AV) : Option (AV × Hp) := match P.underlying s, P.underlying d, x with
  | some _, some (.slice e), .v (.string str) => match P.underlying e, bytesOf? P e with
    | some (.int .u8), some 1 => match h.new (.row (str.data.toList.map fun b => .v (.int .u8 b.toNat)) e 1 true) with
      | some (b, h) => some (.slu b 0 str.size 1, h)
      | none => none
    | _, _ => none
  | some (.pointer t), some .unsafePointer, .ptr b off => match sizeOf? P t, h.get b with
    | some (_ + 1), some (.cells l _) => bif Nat.blt off l.length then some (.ptr b off, h) else none
    | _, _ => none
  | some .unsafePointer, some (.pointer u), .ptr b off => match sizeOf? P u, h.get b with
    | some (_ + 1), some (.cells l e) => bif liesAt P P.depth e (l.length / P.cellsOf e) off u 1 then some (.ptr b off, h) else none
    | _, _ => none
  | _, _, _ => none

/-- Functions that are not walked: by the model's own rows, or by what is known of them. -/
inductive Ext where
  | same
  | pure (e : Array Value → Sem Value)
  | spec (g : List Value → Option Value)
  | overlaps

structure Env where
  P : Program
  ext : Nat → Option Ext
  glob : Nat → Bool
  more : Bool
  lo : Nat → Option Int
  hi : Nat → Option Int

/-- Is a number that is not told less than one that is? -/
def ltO (E : Env) (i : Nat) (m : Int) : Option Bool := match E.hi i with
  | some u => bif decide (u ≤ m) then some true else match E.lo i with
    | some l => bif decide (m ≤ l) then some false else none
    | none => none
  | none => match E.lo i with
    | some l => bif decide (m ≤ l) then some false else none
    | none => none

def notO : Option Bool → Option Bool
  | some b => some (!b)
  | none => none

def cmpO (E : Env) (op : BinOp) (x y : AV) : Option Bool := match x, y with
  | .oi k i, .v (.int k' m) => bif k == k' then match op with
    | .lss => ltO E i m
    | .leq => ltO E i (m + 1)
    | .gtr => notO (ltO E i (m + 1))
    | .geq => notO (ltO E i m)
    | _ => none
    else none
  | .v (.int k' m), .oi k i => bif k == k' then match op with
    | .gtr => ltO E i m
    | .geq => ltO E i (m + 1)
    | .lss => notO (ltO E i (m + 1))
    | .leq => notO (ltO E i m)
    | _ => none
    else none
  | _, _ => none

def plainCells (h : Hp) (b : Nat) : Option (List AV) := match h.get b with
  | some (.cells l _) => some l
  | some (.row l _ _ false) => some l
  | _ => none

def overlaps? (h : Hp) (x y : AV) : Option Bool := match slice? x, slice? y with
  | some (some a), some (some b) => match plainCells h a.b, plainCells h b.b with
    | some _, some (_ :: _) => bif a.b.beq b.b then none else some false
    | _, _ => none
  | _, _ => none

def callFunc? (E : Env) (h : Hp) (f : FuncId) (args : List AV) : Option AOut := match E.ext f with
  | none => match E.P.funcs[f]? with
    | some fn => match fn.body with
      | some _ => some (.enter f args)
      | none => none
    | none => none
  | some .same => match args with
    | [x] => some (.value x)
    | _ => none
  | some (.pure e) => match AV.pures? args with
    | some vs => match pureRun E.P (e vs.toArray) with
      | some v => some (.value (.v v))
      | none => none
    | none => none
  | some (.spec g) => match AV.pures? args with
    | some vs => match g vs with
      | some v => some (.spec f args v)
      | none => none
    | none => none
  | some .overlaps => match args with
    | [x, y] => match overlaps? h x y with
      | some b => some (.value (.v (.bool b)))
      | none => none
    | _ => none

def mapAV (ρ : Operand → AV) : List Operand → List AV
  | [] => []
  | x :: l => ρ x :: mapAV ρ l

/-- What a value that is called is, with its arguments. -/
def target? (f : AV) (args : List AV) : Option ATgt := match f with
  | .func fn first captured => some (.fn fn captured (first ++ args))
  | .v (.func fn first captured) => some (.fn fn (captured.toList.map .v) (first.toList.map .v ++ args))
  | .yield b => some (.yield b args)
  | _ => none

def putAll : Tr AV → Nat → List Tmp → List AV → Option (Tr AV)
  | T, _, [], [] => some T
  | T, n, t :: ts, x :: xs => bif Nat.blt t n then putAll (T.upd bits t (some x)) n ts xs else none
  | _, _, _, _ => none

def invoke? (E : Env) (h : Hp) : ATgt → Option AOut
  | .fn (.func f) captured args => callFunc? E h f (args ++ captured)
  | .yield l args => bif !E.more then none else match h.get l with
    | some (.loop _ _ fn T n params assign body _) => match putAll T n params args with
      | some T => some (.round l fn T n assign body)
      | none => none
    | _ => none
  | _ => none

def clear? (P : Program) (h : Hp) (argTypes : Array TypeId) (args : List AV) : Option Hp := match argTypes[0]?, args with
  | some t, [x] => match P.underlying t, x with
    | some _, .v (.map none) => some h
    | some _, .v (.slice none _ _) => some h
    | some _, .sle _ => some h
    | some (.map _ _), .map b => match h.get b with
      | some (.map _ c) => some (h.put b (.map [] c))
      | _ => none
    | some (.slice elem), .sl b off (n + 1) _ => match zero? P elem, h.cells b with
      | some z, some l => bif (allCells ((AV.v z).cells) && Nat.blt n 4096) then match splice l off (repl (n + 1) ((AV.v z).cells)) with
          | some l => h.setCells b l
          | none => none
        else none
      | _, _ => none
    | some (.slice _), .sl _ _ 0 _ => some h
    | _, _ => none
  | _, _ => none

def len? (P : Program) (h : Hp) (argTypes : Array TypeId) (args : List AV) : Option Nat := match argTypes[0]?, args with
  | some t, [x] => match P.underlying t with
    | some (.slice _) => match x with
      | .sle _ => some 0
      | x => match slice? x with
        | some none => some 0
        | some (some s) => some s.len
        | none => none
    | some (.map _ _) => match mapOf? h x with
      | some (es, _) => some es.length
      | none => none
    | _ => none
  | _, _ => none

/-- The length of a slice that is not told. -/
def olen? (P : Program) (argTypes : Array TypeId) (args : List AV) : Option Nat := match argTypes[0]?, args with
  | some t, [.osl i] => match P.underlying t with
    | some (.slice _) => some i
    | _ => none
  | _, _ => none

def builtinA? (P : Program) (h : Hp) (b : Builtin) (argTypes : Array TypeId) (args : List AV) : Option (AOut × Hp) := match b with
  | .append => match append? P h argTypes args with
    | some (v, h) => some (.value v, h)
    | none => none
  | .copy => match copy? P h argTypes args with
    | some (v, h) => some (.value v, h)
    | none => none
  | .len => match len? P h argTypes args with
    | some n => some (.value (.v (.int .i64 n)), h)
    | none => match olen? P argTypes args with
      | some i => some (.value (.oi .i64 i), h)
      | none => none
  | .clear => match clear? P h argTypes args with
    | some h => some (.value U, h)
    | none => none
  | _ => none

def builtinB? (P : Program) (h : Hp) (b : Builtin) (argTypes : Array TypeId) (args : List AV) : Option (AOut × Hp) := match b with
  | .cap => match args with
    | [x] => match slice? x with
      | some none => some (.value (.v (.int .i64 0)), h)
      | some (some s) => bif s.u then none else some (.value (.v (.int .i64 s.cap)), h)
      | none => none
    | _ => none
  | .delete => match delete? P h argTypes args with
    | some h => some (.value U, h)
    | none => none
  | .recover => some (.recover, h)
  | .unsafeSliceData => match args with
    | [.sl b off _ (_ + 1)] => some (.value (.ptr b off), h)
    | [.slu b 0 (_ + 1) _] => some (.value (.ptr b 0), h)
    | [.v (.slice none _ _)] => some (.value (.v (.pointer none)), h)
    | _ => none
  | .unsafeString => match args with
    | [.v (.pointer none), .v (.int _ 0)] => some (.value (.v (.string ByteArray.empty)), h)
    | [.ptr b off, n] => match asNat? n, argTypes[0]? with
      | some (n + 1), some pt => match P.underlying pt with
        | some (.pointer u) => match h.get b with
          | some (.row l e 1 _) =>
            bif (e.beq u && (P.cellsOf u).beq 1 && (match P.underlying u with | some (.int .u8) => true | _ => false)) then
              match seg l off (n + 1) with
              | some l => match bytes? l ByteArray.empty with
                | some s => some (.value (.v (.string s)), h.drop b)
                | none => none
              | none => none
            else none
          | _ => none
        | _ => none
      | _, _ => none
    | _ => none
  | _ => none

/-- Operations on values without addresses: the model's own. -/
def pureOp (P : Program) (ρ : Operand → AV) (o : Oper) : Option (AOut) :=
  match AV.pures? (mapAV ρ o.op.operands.toList) with
  | some _ => match pureRun P (execOp (fun x => ((ρ x).pure?).getD (.tuple #[])) o) with
    | some (.value v) => some (.value (.v v))
    | _ => none
  | none => none

def pairs (ρ : Operand → AV) : List (Nat × Operand) → List (Nat × AV)
  | [] => []
  | (i, x) :: l => (i, ρ x) :: pairs ρ l

def optAV (ρ : Operand → AV) : Option Operand → Option AV
  | some x => some (ρ x)
  | none => none

/-- The plain operations. -/
def aopA (E : Env) (h : Hp) (ρ : Operand → AV) (o : Oper) : Option (AOut × Hp) :=
  let P := E.P
  match o.op with
  | .move x => some (.value (ρ x), h)
  | .assign x => some (.value (ρ x), h)
  | .pick c a b => match asBool? (ρ c) with
    | some true => some (.value (ρ a), h)
    | some false => some (.value (ρ b), h)
    | none => none
  | .alloc e => match zero? P e with
    | some z => match h.new (.cells ((AV.v z).cells) e) with
      | some (b, h) => some (.value (.ptr b 0), h)
      | none => none
    | none => none
  | .box e x => match h.new (.cells ((ρ x).cells) e) with
    | some (b, h) => some (.value (.ptr b 0), h)
    | none => none
  | .build t ps => match build? P t (pairs ρ ps.toList) with
    | some v => some (.value v, h)
    | none => none
  | .buildSlice t n ps => match buildSlice? P h t n (pairs ρ ps.toList) with
    | some (v, h) => some (.value v, h)
    | none => none
  | .load t a => match load? P h t (ρ a) with
    | some v => some (.value v, h)
    | none => none
  | .store t a x => match store? P h t (ρ a) (ρ x) with
    | some h => some (.skip, h)
    | none => none
  | .nilCheck x => match ρ x with
    | .ptr b off => some (.value (.ptr b off), h)
    | .func (.func f) a b => some (.value (.func (.func f) a b), h)
    | .v (.func (.func f) a b) => some (.value (.v (.func (.func f) a b)), h)
    | _ => none
  | .binOp op t x y _ => match pureOp P ρ o with
    | some r => some (r, h)
    | none => match op with
      | .eql => match aeq? P t (ρ x) (ρ y) with
        | some b => some (.value (.v (.bool b)), h)
        | none => none
      | .neq => match aeq? P t (ρ x) (ρ y) with
        | some b => some (.value (.v (.bool (!b))), h)
        | none => none
      | op => match cmpO E op (ρ x) (ρ y) with
        | some b => some (.value (.v (.bool b)), h)
        | none => none
  | .unOp _ _ _ => match pureOp P ρ o with
    | some r => some (r, h)
    | none => none
  | .convert s d x => match pureOp P ρ o with
    | some r => some (r, h)
    | none => match bytesString? P h s d (ρ x) with
      | some v => some (.value v, h)
      | none => none
  | .makeFunc fn first captured => match fn with
    | .yield _ => none
    | fn => some (.value (.func fn (mapAV ρ first.toList) (mapAV ρ captured.toList)), h)
  | .makeMap t r => match r with
    | none => match h.new (.map [] 0) with
      | some (b, h) => some (.value (.map b), h)
      | none => none
    | some x => match P.underlying t, asInt? (ρ x) with
      | some (.map _ _), some _ => match h.new (.map [] 0) with
        | some (b, h) => some (.value (.map b), h)
        | none => none
      | _, _ => none
  | .makeSlice t l c => match makeSlice? P h t (ρ l) (ρ c) with
    | some (v, h) => some (.value v, h)
    | none => none
  | .slice t x lo hi mx => match pureOp P ρ o with
    | some r => some (r, h)
    | none => match slice1? P h t (ρ x) (optAV ρ lo) (optAV ρ hi) (optAV ρ mx) with
      | some v => some (.value v, h)
      | none => none
  | .fieldAddr t x f => match fieldAddr? P t (ρ x) f with
    | some v => some (.value v, h)
    | none => none
  | .field t x f => match field? P t (ρ x) f with
    | some v => some (.value v, h)
    | none => none
  | .indexAddr t x i => match indexAddr? P t (ρ x) (ρ i) with
    | some v => some (.value v, h)
    | none => none
  | .index t x i => match pureOp P ρ o with
    | some r => some (r, h)
    | none => match index? P t (ρ x) (ρ i) with
      | some v => some (.value v, h)
      | none => none
  | .lookup t m k ok => match lookup? P h t (ρ m) (ρ k) ok with
    | some v => some (.value v, h)
    | none => none
  | .mapUpdate t m k x => match mapUpdate? P h t (ρ m) (ρ k) (ρ x) with
    | some h => some (.skip, h)
    | none => none
  | .insert t m k x => match mapUpdate? P h t (ρ m) (ρ k) (ρ x) with
    | some h => some (.skip, h)
    | none => none
  | .extract x i => match ρ x with
    | .tup l => match l[i]? with
      | some v => some (.value v, h)
      | none => none
    | .v (.tuple l) => match l[i]? with
      | some v => some (.value (.v v), h)
      | none => none
    | _ => none
  | .call c => match c.callee with
    | .builtin b => match b with
      | .min => match pureOp P ρ o with
        | some r => some (r, h)
        | none => none
      | .max => match pureOp P ρ o with
        | some r => some (r, h)
        | none => none
      | .len => match pureOp P ρ o with
        | some r => some (r, h)
        | none => builtinA? P h .len c.argTypes (mapAV ρ c.args.toList)
      | b => builtinA? P h b c.argTypes (mapAV ρ c.args.toList)
    | .value f => match target? (ρ f) (mapAV ρ c.args.toList) with
      | some t => match invoke? E h t with
        | some r => some (r, h)
        | none => none
      | none => none
    | .invoke _ _ => none
  | _ => none

/-- The other ones. -/
def aopB (E : Env) (h : Hp) (ρ : Operand → AV) (o : Oper) : Option (AOut × Hp) :=
  let P := E.P
  match o.op with
  | .range t x => match range? P h t (ρ x) with
    | some (v, h) => some (.value v, h)
    | none => none
  | .next it s => match next? h (ρ it) s with
    | some (v, h) => some (.value v, h)
    | none => none
  | .entry it => match entry? h (ρ it) with
    | some v => some (.value v, h)
    | none => none
  | .defer c => match c.callee with
    | .value f => match target? (ρ f) (mapAV ρ c.args.toList) with
      | some t => some (.defer t, h)
      | none => none
    | _ => none
  | .convert s d x => match convert? P h s d (ρ x) with
    | some (v, h) => some (.value v, h)
    | none => none
  | .makeInterface t x => match P.underlying t with
    | some (.interface _) => none
    | some _ => some (.value (.iface t (ρ x)), h)
    | none => none
  | .call c => match c.callee with
    | .builtin b => builtinB? P h b c.argTypes (mapAV ρ c.args.toList)
    | _ => none
  | _ => none

def aop (E : Env) (h : Hp) (ρ : Operand → AV) (o : Oper) : Option (AOut × Hp) := match aopA E h ρ o with
  | some r => some r
  | none => bif E.more then aopB E h ρ o else none

/-! The machine. -/
def isNone {α : Type} : Option α → Bool
  | none => true
  | _ => false

structure APanic where
  v : AV
  recovered : Bool

inductive AMode where
  | run
  | returning
  | panicking (chain : List APanic)

/-- An operation of a region that draws its order, taken ahead: its number, itself, the block that it makes. -/
structure Pend where
  i : Nat
  o : Oper
  b : Option Nat

inductive AItem where
  | code (c : Code)
  | inBlock (id : Nat)
  | inLoop (body : Code)
  | inScope (body : Code)
  | reg (ops : Array Oper) (i : Nat) (l : List Oper)
  | dreg (ops : Array Oper) (listed : Nat) (pend : List Pend) (cur : Option (Nat × Oper))
  | inRangeFunc (l : Nat)
  | endRangeFunc (l : Nat)
  | beginRound

structure AFr where
  fn : FuncId
  T : Tr AV
  n : Nat
  todo : List AItem
  defers : List ATgt
  mode : AMode
  kind : CallKind
  round : Option Nat

structure ASt where
  fr : AFr
  cs : List AFr
  h : Hp

def tmp (T : Tr AV) (t : Nat) : AV := match T.find t with
  | some x => x
  | none => U

def evalA (E : Env) (T : Tr AV) : Operand → AV
  | .tmp t => tmp T t
  | .const v => .v v
  | .global g => bif E.glob g then .ptr g 0 else .v (.pointer (some ⟨g, 0, none⟩))
  | .func f => .v (.func (.func f) #[] #[])

def putT (T : Tr AV) (n : Nat) (d : Option Tmp) (v : AV) : Option (Tr AV) := match d with
  | some d => bif Nat.blt d n then some (T.upd bits d (some v)) else none
  | none => some T

def wantedA (o : Oper) (ops : Array Oper) (T : Tr AV) : Bool := match o.guard with
  | none => true
  | some (j, want) => match ops[j]? with
    | some x => match x.dst with
      | some d => match tmp T d with
        | .v (.bool b) => b == want
        | _ => false
      | none => false
    | none => false

def exitToA (id : Nat) : List AItem → Option (List AItem)
  | .inBlock id' :: k => bif id'.beq id then some k else exitToA id k
  | _ :: k => exitToA id k
  | [] => none

def gotoInA (l : Nat) : List AItem → Option (List AItem)
  | .inScope body :: k => match findLabel body l with
    | some rest => some (.code rest :: .inScope body :: k)
    | none => gotoInA l k
  | _ :: k => gotoInA l k
  | [] => none

/-- The quiet operations: they leave memory as it is. -/
def quiet (o : Oper) : Bool := match o.op with
  | .move _ | .assign _ | .pick .. | .build .. | .load .. | .nilCheck _ | .binOp .. | .unOp .. | .makeInterface .. | .makeFunc .. | .slice ..
  | .fieldAddr .. | .field .. | .indexAddr .. | .index .. | .lookup .. | .entry _ | .extract .. => true
  | .call { callee := .builtin b, .. } => match b with
    | .len | .cap | .min | .max | .unsafeSliceData => true
    | _ => false
  | _ => false

/-- Those of them that look at memory. -/
def looks (o : Oper) : Bool := match o.op with
  | .load .. | .lookup .. | .entry _ | .slice .. | .call _ => true
  | _ => false

/-- New blocks that nobody else knows of. -/
def fresh (o : Oper) : Bool := match o.op with
  | .alloc _ => true
  | .makeSlice .. => true
  | .makeMap .. => true
  | _ => false

def ready (o : Oper) (listed : Nat) : Bool := o.after.toList.all fun e => !(Region.binds .any e) || listed.testBit e.on

def behind (o : Oper) (i : Nat) : Bool := o.after.toList.any fun e => Region.binds .any e && e.on.beq i

/-- The first operation that may come up, of some kind. -/
def pickOp (p : Oper → Bool) (listed : Nat) : Nat → List Oper → Option (Nat × Oper)
  | _, [] => none
  | i, o :: l => bif (!listed.testBit i && p o && ready o listed) then some (i, o) else pickOp p listed (i + 1) l

/-- The temporaries that an operation looks at. -/
def sees (ops : Array Oper) (o : Oper) (d : Nat) : Bool :=
  (o.op.operands.toList.any fun | .tmp t => t.beq d | _ => false) || (match o.guard with
   | some (g, _) => match ops[g]? with
     | some x => match x.dst with
       | some t => t.beq d
       | none => false
     | none => false
   | none => false)

def dstIs (o : Oper) (d : Nat) : Bool := match o.dst with
  | some t => t.beq d
  | none => false

/-- Is what an operation writes nothing that it looks at itself? -/
def selfOk (ops : Array Oper) (o : Oper) : Bool := match o.dst with
  | some d => !(sees ops o d)
  | none => true

/-- May an operation be taken beside one that was taken ahead? -/
def apartA (ops : Array Oper) (m : Pend) (o : Oper) : Bool :=
  (match o.dst with
   | some d => !(sees ops m.o d) && !(dstIs m.o d)
   | none => true) &&
  (match m.o.dst with
   | some d => !(sees ops o d) || behind o m.i
   | none => true)

def Hp.flag (h : Hp) (b : Nat) (f : Bool) : Hp := match h.H.find b with
  | some (_, o) => ⟨h.H.upd bits b (some (f, o)), h.nx⟩
  | none => h

/-- What an operation that comes up has made surely known. -/
def settle (o : Oper) : List Pend → Hp → List Pend × Hp
  | [], h => ([], h)
  | m :: l, h => match settle o l h with
    | (l', h') => bif behind o m.i then (l', match m.b with
        | some b => h'.flag b false
        | none => h') else (m :: l', h')

def settleAll : List Pend → Hp → Hp
  | [], h => h
  | m :: l, h => match m.b with
    | some b => (settleAll l h).flag b false
    | none => settleAll l h

/-! Whether two values are one and the same, as far as is looked at. -/
def vsame : Value → Value → Bool
  | .bool a, .bool b => a == b
  | .int k a, .int l b => k == l && a == b
  | .string a, .string b => a == b
  | .pointer none, .pointer none => true
  | .slice none a b, .slice none c d => a.beq c && b.beq d
  | .map none, .map none => true
  | .nilFunc, .nilFunc => true
  | .nilIface, .nilIface => true
  | _, _ => false

mutual
def asame : AV → AV → Bool
  | .v x, .v y => vsame x y
  | .ptr b o, .ptr b' o' => b.beq b' && o.beq o'
  | .sl b o l c, .sl b' o' l' c' => b.beq b' && o.beq o' && l.beq l' && c.beq c'
  | .sle b, .sle b' => b.beq b'
  | .slu b o l c, .slu b' o' l' c' => b.beq b' && o.beq o' && l.beq l' && c.beq c'
  | .map b, .map b' => b.beq b'
  | .agg l, .agg l' => asames l l'
  | .tup l, .tup l' => asames l l'
  | .func fn f c, .func fn' f' c' => fn == fn' && asames f f' && asames c c'
  | _, _ => false
def asames : List AV → List AV → Bool
  | [], [] => true
  | x :: l, y :: l' => asame x y && asames l l'
  | _, _ => false
end

/-- Do operations that were taken ahead, and look at memory, still come to what they came to? -/
def holdsStill (E : Env) (ops : Array Oper) (h : Hp) (T : Tr AV) : List Pend → Bool
  | [] => true
  | m :: l => (bif looks m.o && wantedA m.o ops T && isNone m.b then match aop E h (evalA E T) m.o, m.o.dst with
      | some (.value v, _), some d => asame v (tmp T d)
      | _, _ => false
    else true) && holdsStill E ops h T l

/-- An operation of a frame has come to a value. -/
def finishA (E : Env) (h : Hp) (T : Tr AV) (n : Nat) (todo : List AItem) (v : AV) : Option (Tr AV × List AItem) := match todo with
  | .reg ops i (o :: l) :: k => match putT T n o.dst v with
    | some T => some (T, .reg ops (i + 1) l :: k)
    | none => none
  | .dreg ops listed pend (some (i, o)) :: k => match putT T n o.dst v with
    | some T => bif holdsStill E ops h T pend then some (T, .dreg ops (Nat.lor listed (2 ^ i)) pend none :: k) else none
    | none => none
  | .inRangeFunc l :: k => some (T, .endRangeFunc l :: k)
  | .beginRound :: k => some (T, k)
  | _ => none

def goOn (E : Env) (fn : FuncId) (T : Tr AV) (n : Nat) (todo : List AItem) (defers : List ATgt) (kind : CallKind) (round : Option Nat) (cs : List AFr) (h : Hp) (v : AV) : Option ASt :=
  match finishA E h T n todo v with
  | some (T, todo) => some ⟨⟨fn, T, n, todo, defers, .run, kind, round⟩, cs, h⟩
  | none => none

def enterA (E : Env) (f : FuncId) (args : List AV) (kind : CallKind) (cs : List AFr) (h : Hp) : Option ASt := match E.P.funcs[f]? with
  | some g => match g.body with
    | some c => bif Nat.ble args.length g.ntmps then
        match putAll .nil g.ntmps (List.range args.length) args with
        | some T => some ⟨⟨f, T, g.ntmps, [.code c], [], .run, kind, none⟩, cs, h⟩
        | none => none
      else none
    | none => none
  | none => none

/-- What an operation has come to. -/
def applyA (E : Env) (fn : FuncId) (T : Tr AV) (n : Nat) (todo : List AItem) (defers : List ATgt) (kind : CallKind) (round : Option Nat) (cs : List AFr) (h : Hp) (r : AOut) : Option ASt := match r with
  | .value v => goOn E fn T n todo defers kind round cs h v
  | .skip => goOn E fn T n todo defers kind round cs h U
  | .enter f args => enterA E f args .normal (⟨fn, T, n, todo, defers, .run, kind, round⟩ :: cs) h
  | .defer d => bif !E.more then none else match round with
    | none => goOn E fn T n todo (d :: defers) kind round cs h U
    | some _ => none
  | .round l f T' n' assign body => bif !E.more then none else some ⟨⟨f, T', n', [.code assign, .beginRound, .code body], [], .run, .normal, some l⟩, ⟨fn, T, n, todo, defers, .run, kind, round⟩ :: cs, h⟩
  | .recover => bif !E.more then none else match round, kind, cs with
    | none, .deferred, ⟨_, _, _, _, _, .run, _, _⟩ :: _ => goOn E fn T n todo defers kind round cs h (.v .nilIface)
    | none, .deferred, ⟨_, _, _, _, _, .returning, _, _⟩ :: _ => goOn E fn T n todo defers kind round cs h (.v .nilIface)
    | _, _, _ => none
  | .spec _ _ v => goOn E fn T n todo defers kind round cs h (.v v)

def aopRound (E : Env) (round : Option Nat) (h : Hp) (ρ : Operand → AV) (o : Oper) : Option (AOut × Hp) := match round with
  | none => aop E h ρ o
  | some _ => match o.op with
    | .defer _ => none
    | _ => aop E h ρ o

/-- A region that draws its order: quiet operations first, then new blocks, then the one that is left. -/
def dregA (E : Env) (fn : FuncId) (T : Tr AV) (n : Nat) (ops : Array Oper) (listed : Nat) (pend : List Pend) (k : List AItem) (defers : List ATgt) (kind : CallKind) (round : Option Nat) (cs : List AFr) (h : Hp) : Option ASt :=
  match pickOp (fun o => (quiet o || !wantedA o ops T) && selfOk ops o && pend.all fun m => apartA ops m o) listed 0 ops.toList with
  | some (i, o) =>
      bif wantedA o ops T then match aop E h (evalA E T) o with
        | some (.value v, _) => match putT T n o.dst v with
          | some T => some ⟨⟨fn, T, n, .dreg ops (Nat.lor listed (2 ^ i)) (⟨i, o, none⟩ :: pend) none :: k, defers, .run, kind, round⟩, cs, h⟩
          | none => none
        | _ => none
      else match putT T n o.dst U with
        | some T => some ⟨⟨fn, T, n, .dreg ops (Nat.lor listed (2 ^ i)) (⟨i, o, none⟩ :: pend) none :: k, defers, .run, kind, round⟩, cs, h⟩
        | none => none
  | none => match pickOp (fun o => fresh o && wantedA o ops T && selfOk ops o && pend.all fun m => apartA ops m o) listed 0 ops.toList with
    | some (i, o) => match aop E h (evalA E T) o with
        | some (.value v, h') => match putT T n o.dst v with
          | some T => some ⟨⟨fn, T, n, .dreg ops (Nat.lor listed (2 ^ i)) (⟨i, o, some h.nx⟩ :: pend) none :: k, defers, .run, kind, round⟩, cs, h'.flag h.nx true⟩
          | none => none
        | _ => none
    | none => match pickOp (fun _ => true) listed 0 ops.toList with
      | some (i, o) => bif isNone (pickOp (fun _ => true) listed (i + 1) (ops.toList.drop (i + 1))) then
          match settle o pend h with
          | (pend, h) => bif (pend.all fun m => apartA ops m o) then
              bif wantedA o ops T then match aopRound E round h (evalA E T) o with
                | some (r, h) => applyA E fn T n (.dreg ops listed pend (some (i, o)) :: k) defers kind round cs h r
                | none => none
              else goOn E fn T n (.dreg ops listed pend (some (i, o)) :: k) defers kind round cs h U
            else none
        else none
      | none => some ⟨⟨fn, T, n, k, defers, .run, kind, round⟩, cs, settleAll pend h⟩

def resultOf (E : Env) (fn : FuncId) (T : Tr AV) (h : Hp) : Option AV := match E.P.funcs[fn]? with
  | some g => match (let rec go : List ResultVar → Option (List AV)
      | [] => some []
      | .tmp t :: l => match go l with
        | some r => some (tmp T t :: r)
        | none => none
      | .cell a t :: l => match load? E.P h t (tmp T a), go l with
        | some v, some r => some (v :: r)
        | _, _ => none
      go g.results.toList) with
    | some [x] => some x
    | some l => some (.tup l)
    | none => none
  | none => none

/-- A frame hands a value to its caller. -/
def returnA (E : Env) (kind : CallKind) (cs : List AFr) (h : Hp) (v : AV) : Option ASt := match cs with
  | ⟨fn, T, n, todo, defers, mode, kind', round⟩ :: cs => match kind with
    | .normal => match mode with
      | .run => goOn E fn T n todo defers kind' round cs h v
      | _ => none
    | .deferred => match mode with
      | .panicking _ => none
      | m => some ⟨⟨fn, T, n, todo, defers, m, kind', round⟩, cs, h⟩
    | _ => none
  | [] => none

/-- A frame of a round is left, by a jump or at its end. -/
def leaveA (E : Env) (fn : FuncId) (T : Tr AV) (n : Nat) (todo : List AItem) (defers : List ATgt) (kind : CallKind) (round : Option Nat) (cs : List AFr) (h : Hp) (jump : Option Code) : Option ASt := match round with
  | none => match jump with
    | none => some ⟨⟨fn, T, n, todo, defers, .returning, kind, round⟩, cs, h⟩
    | some .ret => some ⟨⟨fn, T, n, todo, defers, .returning, kind, round⟩, cs, h⟩
    | _ => none
  | some l => bif !E.more then none else match h.get l with
    | some (.loop _ _ f T' n' ps a b d) => match defers with
      | _ => returnA E kind cs (h.put l (.loop (bif isNone jump then .ready else .done) jump f T' n' ps a b d)) (.v (.bool (isNone jump)))
    | _ => none

def astep (E : Env) : ASt → Option ASt
  | ⟨⟨fn, T, n, todo, defers, mode, kind, round⟩, cs, h⟩ => match mode with
    | .run => match todo with
      | [] => leaveA E fn T n todo defers kind round cs h none
      | .code c :: k => match c with
        | .ret => leaveA E fn T n todo defers kind round cs h (some .ret)
        | .skip => some ⟨⟨fn, T, n, k, defers, .run, kind, round⟩, cs, h⟩
        | .label _ => some ⟨⟨fn, T, n, k, defers, .run, kind, round⟩, cs, h⟩
        | .seq a b => some ⟨⟨fn, T, n, .code a :: .code b :: k, defers, .run, kind, round⟩, cs, h⟩
        | .cond c a b => match asBool? (evalA E T c) with
          | some true => some ⟨⟨fn, T, n, .code a :: k, defers, .run, kind, round⟩, cs, h⟩
          | some false => some ⟨⟨fn, T, n, .code b :: k, defers, .run, kind, round⟩, cs, h⟩
          | none => none
        | .block id b => some ⟨⟨fn, T, n, .code b :: .inBlock id :: k, defers, .run, kind, round⟩, cs, h⟩
        | .loop b => some ⟨⟨fn, T, n, .code b :: .inLoop b :: k, defers, .run, kind, round⟩, cs, h⟩
        | .scope b => some ⟨⟨fn, T, n, .code b :: .inScope b :: k, defers, .run, kind, round⟩, cs, h⟩
        | .exit id => match exitToA id k with
          | some k => some ⟨⟨fn, T, n, k, defers, .run, kind, round⟩, cs, h⟩
          | none => leaveA E fn T n todo defers kind round cs h (some (.exit id))
        | .goto l => match gotoInA l k with
          | some k => some ⟨⟨fn, T, n, k, defers, .run, kind, round⟩, cs, h⟩
          | none => leaveA E fn T n todo defers kind round cs h (some (.goto l))
        | .region _ ops false => some ⟨⟨fn, T, n, .reg ops 0 ops.toList :: k, defers, .run, kind, round⟩, cs, h⟩
        | .region _ ops true => some ⟨⟨fn, T, n, .dreg ops 0 [] none :: k, defers, .run, kind, round⟩, cs, h⟩
        | .rangeFunc f params assign body => bif !E.more then none else
          match round with
          | none => match h.new (.deferred (some [])) with
            | some (r, h) => match h.new (.loop .ready none fn T n params.toList assign body r) with
              | some (l, h) => match target? (evalA E T f) [.yield l] with
                | some t => match invoke? E h t with
                  | some o => applyA E fn T n (.inRangeFunc l :: k) (.collected r :: defers) kind round cs h o
                  | none => none
                | none => none
              | none => none
            | none => none
          | some l0 => match h.get l0 with
            | some (.loop _ _ _ _ _ _ _ _ r) => match h.new (.loop .ready none fn T n params.toList assign body r) with
              | some (l, h) => match target? (evalA E T f) [.yield l] with
                | some t => match invoke? E h t with
                  | some o => applyA E fn T n (.inRangeFunc l :: k) defers kind round cs h o
                  | none => none
                | none => none
              | none => none
            | _ => none
        | .refuse _ => none
      | .inBlock _ :: k => some ⟨⟨fn, T, n, k, defers, .run, kind, round⟩, cs, h⟩
      | .inScope _ :: k => some ⟨⟨fn, T, n, k, defers, .run, kind, round⟩, cs, h⟩
      | .inLoop b :: k => some ⟨⟨fn, T, n, .code b :: .inLoop b :: k, defers, .run, kind, round⟩, cs, h⟩
      | .reg _ _ [] :: k => some ⟨⟨fn, T, n, k, defers, .run, kind, round⟩, cs, h⟩
      | .reg ops _ (o :: _) :: _ => bif wantedA o ops T then match aopRound E round h (evalA E T) o with
          | some (r, h) => applyA E fn T n todo defers kind round cs h r
          | none => none
        else goOn E fn T n todo defers kind round cs h U
      | .dreg ops listed pend none :: k => dregA E fn T n ops listed pend k defers kind round cs h
      | .dreg _ _ _ (some _) :: _ => none
      | .inRangeFunc _ :: _ => none
      | .endRangeFunc l :: k => bif !E.more then none else match h.get l with
        | some (.loop st pending f T' n' ps a b d) => match st with
          | .busy => none
          | _ => some ⟨⟨fn, T, n, (match pending with | some c => .code c :: k | none => k), defers, .run, kind, round⟩, cs, h.put l (.loop .exhausted pending f T' n' ps a b d)⟩
        | _ => none
      | .beginRound :: k => bif !E.more then none else match round with
        | some l => match h.get l with
          | some (.loop .ready pending f T' n' ps a b d) => some ⟨⟨fn, T, n, k, defers, .run, kind, round⟩, cs, h.put l (.loop .busy pending f T' n' ps a b d)⟩
          | _ => none
        | none => none
    | .returning => match defers with
      | [] => match resultOf E fn T h with
        | some v => returnA E kind cs h v
        | none => none
      | .collected b :: ds => bif !E.more then none else match h.get b with
        | some (.deferred (some calls)) => some ⟨⟨fn, T, n, todo, calls ++ ds, mode, kind, round⟩, cs, h.put b (.deferred none)⟩
        | _ => none
      | d :: ds => bif !E.more then none else match invoke? E h d with
        | some (.enter f args) => enterA E f args .deferred (⟨fn, T, n, todo, ds, mode, kind, round⟩ :: cs) h
        | _ => none
    | .panicking _ => none

inductive RS where
  | next (s : ASt)
  | stop (s : ASt)

/-- So many steps (2 to the k), or as many as there are. -/
def arun (E : Env) : Nat → ASt → RS
  | 0, s => match astep E s with
    | some s' => .next s'
    | none => .stop s
  | k + 1, s => match arun E k s with
    | .next s' => arun E k s'
    | .stop s' => .stop s'

end Go.Ev
