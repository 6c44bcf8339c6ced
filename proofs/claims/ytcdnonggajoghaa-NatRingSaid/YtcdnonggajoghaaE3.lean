/- Operations over abstract values, part 2: what they come to (functions alone). -/
import Derived.Test.YtcdnonggajoghaaE2
namespace Go.Proofs.Ytcdnonggajoghaa
open Go Go.RowKit
set_option linter.unusedVariables false

def live (H : Heap) (b ver : Nat) : Bool :=
  match H[b]? with
  | some (.cells v _ _) => v == ver
  | _ => false

/-- The cells from a pointer on. -/
def cellsAt (H : Heap) : AV → Option (List AV)
  | .ptr b ver off => match H[b]? with
    | some (.cells v _ cs) => if v = ver then some (cs.drop off) else none
    | _ => none
  | .dptr cs => some cs
  | _ => none

def aload (E : Env) (H : Heap) (t : TypeId) (p : AV) : Option AV :=
  match E.ti t, cellsAt H p with
  | some x, some cs =>
    if x.isAgg then (if x.size ≤ cs.length then some (.agg (cs.take x.size)) else none) else cs.head?
  | _, _ => none

def astore (E : Env) (H : Heap) (t : TypeId) (p v : AV) : Option Heap :=
  match E.ti t, p, v.cells with
  | some x, .ptr b ver off, some vs => match H[b]? with
    | some (.cells v' e cs) => if v' = ver ∧ vs.length = x.size ∧ off + vs.length ≤ cs.length then some (H.set b (.cells ver e (splice cs off vs))) else none
    | _ => none
  | _, _, _ => none

def aalloc (E : Env) (H : Heap) (t : TypeId) : Option (AV × Heap) :=
  (E.ti t).map fun x => (.ptr H.length 0 0, H ++ [.cells 0 t x.zero])

def abox (E : Env) (H : Heap) (t : TypeId) (v : AV) : Option (AV × Heap) :=
  v.cells.map fun vs => (.ptr H.length 0 0, H ++ [.cells 0 t vs])

def afill (place : Nat → Option (Nat × Nat)) : List AV → List (Nat × AV) → Option (List AV)
  | cs, [] => some cs
  | cs, (i, v) :: rest => match place i, v.cells with
    | some (off, size), some vs => if vs.length = size ∧ off + vs.length ≤ cs.length then afill place (splice cs off vs) rest else none
    | _, _ => none

def abuild (E : Env) (t : TypeId) (parts : List (Nat × AV)) : Option AV :=
  match E.ti t with
  | some x => match x.desc with
    | .struct _ => match E.pl t with
      | some pl => (afill (pl[·]?) x.zero parts).map .agg
      | none => none
    | .array _ elem => match E.ti elem with
      | some y => (afill (fun i => some (i * y.size, y.size)) x.zero parts).map .agg
      | none => none
    | _ => none
  | none => none

def reps (n : Nat) (zero : List AV) : List AV := (List.replicate n zero).flatten

def abuildSlice (E : Env) (H : Heap) (t : TypeId) (len : Nat) (parts : List (Nat × AV)) : Option (AV × Heap) :=
  match E.un t with
  | some (.slice elem) => match E.ti elem with
    | some x => if len * x.size ≤ 16777216 ∧ len ≤ 16777216 then
        (afill (fun i => some (i * x.size, x.size)) (reps len x.zero) parts).map fun cs => (.osl H.length 0 0 len x.size, H ++ [.cells 0 elem cs])
      else none
    | none => none
  | _ => none

def afieldAddr (E : Env) (H : Heap) (s : TypeId) (p : AV) (f : Nat) : Option AV :=
  match E.un s with
  | some (.struct fields) => match fields[f]? with
    | some fd => match E.ti fd.type with
      | some x => if x.size = 0 then none else match p with
        | .ptr b ver off => if live H b ver then some (.ptr b ver (off + fd.offset)) else none
        | .dptr cs => some (.dptr (cs.drop fd.offset))
        | _ => none
      | none => none
    | none => none
  | _ => none

def apart (E : Env) (t : TypeId) (cs : List AV) (off : Nat) : Option AV :=
  match E.ti t with
  | some x => if x.isAgg then some (.agg ((cs.take (off + x.size)).drop off)) else cs[off]?
  | none => none

def afield (E : Env) (s : TypeId) (v : AV) (f : Nat) : Option AV :=
  match E.un s, v with
  | some (.struct fields), .agg cs => match fields[f]? with
    | some fd => apart E fd.type cs fd.offset
    | none => none
  | _, _ => none

def aindexAddr (E : Env) (H : Heap) (t : TypeId) (x ix : AV) : Option AV :=
  match E.un t, ix with
  | some (.slice elem), .int _ i => match E.ti elem with
    | some y => match x with
      | .osl b ver off len sz => if live H b ver = true ∧ sz = y.size ∧ 0 ≤ i ∧ i < len then some (.ptr b ver (off + i.toNat * sz)) else none
      | .dsl cs len => if 0 ≤ i ∧ i < len ∧ i.toNat * y.size < cs.length then some (.dptr (cs.drop (i.toNat * y.size))) else none
      | _ => none
    | none => none
  | some (.array n elem), .int _ i => match E.ti elem with
    | some y => if 0 ≤ i ∧ i < n then match x with
        | .ptr b ver off => if live H b ver then some (.ptr b ver (off + i.toNat * y.size)) else none
        | .dptr cs => some (.dptr (cs.drop (i.toNat * y.size)))
        | _ => none
      else none
    | none => none
  | _, _ => none

def aindex (E : Env) (t : TypeId) (x ix : AV) : Option AV :=
  match E.un t, x, ix with
  | some (.array n elem), .agg cs, .int _ i => match E.ti elem with
    | some y => if 0 ≤ i ∧ i < n then apart E elem cs (i.toNat * y.size) else none
    | none => none
  | some .string, .str s, .int _ i => if 0 ≤ i then (s[i.toNat]?).map fun b => .int .u8 b.toNat else none
  | _, _, _ => none

def bound (d : Nat) : Option AV → Option Nat
  | none => some d
  | some (.int _ i) => if 0 ≤ i then some i.toNat else none
  | _ => none

def aslice (E : Env) (H : Heap) (t : TypeId) (x : AV) (lo hi : Option AV) : Option AV :=
  match E.un t, x with
  | some .string, .str s => match bound s.size hi, bound 0 lo with
    | some h, some l => if l ≤ h ∧ h ≤ s.size then some (.str (s.extract l h)) else none
    | _, _ => none
  | some (.slice elem), .nsl => match bound 0 hi, bound 0 lo, E.ti elem with
    | some 0, some 0, some _ => some .nsl
    | _, _, _ => none
  | some (.slice elem), .dsl cs len => match bound len hi, bound 0 lo, E.ti elem with
    | some h, some l, some y => if l ≤ h ∧ h ≤ len then some (.dsl ((cs.drop (l * y.size)).take ((h - l) * y.size)) (h - l)) else none
    | _, _, _ => none
  | some (.slice elem), .osl b ver off len sz => match bound len hi, bound 0 lo, E.ti elem with
    | some h, some l, some y => if live H b ver = true ∧ sz = y.size ∧ l ≤ h ∧ h ≤ len then
        (if l = 0 then some (.osl b ver off h sz) else if l < h then some (.osl b ver (off + l * sz) (h - l) sz) else some (.dsl [] 0)) else none
    | _, _, _ => none
  | _, _ => none

def amakeSlice (E : Env) (H : Heap) (t : TypeId) (l c : AV) : Option (AV × Heap) :=
  match E.un t, l, c with
  | some (.slice elem), .int _ n, .int _ m => match E.ti elem with
    | some y => if 0 ≤ n ∧ n ≤ m ∧ y.bytes * m.toNat ≤ 281474976710656 ∧ m ≤ 281474976710656 then some (.osl H.length 0 0 n.toNat y.size, H ++ [.cells 0 elem (reps n.toNat y.zero)]) else none
    | none => none
  | _, _, _ => none

/-- What a slice holds: its cells, and how many elements. -/
def sliceCells (H : Heap) : AV → Option (List AV × Nat)
  | .nsl => some ([], 0)
  | .dsl cs len => some (cs, len)
  | .osl b ver off len sz => match H[b]? with
    | some (.cells v _ cs) => if v = ver then some ((cs.drop off).take (len * sz), len) else none
    | _ => none
  | _ => none

def aappend (E : Env) (H : Heap) (t u : TypeId) (s x : AV) : Option (AV × Heap) :=
  match E.un t, E.un u with
  | some (.slice elem), some (.slice _) => match E.ti elem, sliceCells H x with
    | some y, some (news, m) =>
      if news.length = m * y.size ∧ 0 < y.size then match s with
      | .nsl => if m = 0 then some (.nsl, H) else if m * y.bytes ≤ 140737488355328 ∧ m ≤ 140737488355328 then some (.osl H.length 0 0 m y.size, H ++ [.cells 0 elem news]) else none
      | .osl b ver 0 len sz => match H[b]? with
        | some (.cells v e cs) =>
          if v = ver ∧ e = elem ∧ sz = y.size ∧ len * sz ≤ cs.length ∧ (len + m) * y.bytes ≤ 140737488355328 ∧ len + m ≤ 140737488355328 then
            some (.osl b (ver + 1) 0 (len + m) sz, H.set b (.cells (ver + 1) elem (cs.take (len * sz) ++ news))) else none
        | _ => none
      | _ => none
      else none
    | _, _ => none
  | _, _ => none

def alen (E : Env) (H : Heap) (t : TypeId) (x : AV) : Option AV :=
  match E.un t, x with
  | some .string, .str s => some (.int .i64 s.size)
  | some (.array n _), _ => some (.int .i64 n)
  | some (.slice _), .nsl => some (.int .i64 0)
  | some (.slice _), .dsl _ len => some (.int .i64 len)
  | some (.slice _), .osl b ver _ len _ => if live H b ver then some (.int .i64 len) else none
  | _, _ => none

/-- Operands. -/
def ev (E : Env) (fr : Fr) : Operand → Option AV
  | .tmp t => lk fr t
  | .const v => ofV v
  | .global g => (E.G g).map .dptr
  | .func f => some (.fn (.func f) [] [])
def evs (E : Env) (fr : Fr) : List Operand → Option (List AV)
  | [] => some []
  | x :: xs => match ev E fr x, evs E fr xs with
    | some a, some as => some (a :: as)
    | _, _ => none
def evo (E : Env) (fr : Fr) : Option Operand → Option (Option AV)
  | none => some none
  | some x => (ev E fr x).map some
def evp (E : Env) (fr : Fr) : List (Nat × Operand) → Option (List (Nat × AV))
  | [] => some []
  | (i, x) :: xs => match ev E fr x, evp E fr xs with
    | some a, some as => some ((i, a) :: as)
    | _, _ => none

/-- An operation that neither reads nor writes memory, at values that name none. -/
def apure (E : Env) (s : Sem Value) : Option AV := match prun E.P s with
  | some v => ofV v
  | none => none

def aint (E : Env) (op : BinOp) (t : TypeId) (k k' : IntKind) (a b : Int) : Option AV :=
  match op with
  | .add => if k = k' then some (.int k (k.wrap (a + b))) else none
  | .sub => if k = k' then some (.int k (k.wrap (a - b))) else none
  | .mul => if k = k' then some (.int k (k.wrap (a * b))) else none
  | .quo => if k = k' ∧ b ≠ 0 then some (.int k (k.wrap (a.tdiv b))) else none
  | .rem => if k = k' ∧ b ≠ 0 then some (.int k (a.tmod b)) else none
  | .eql => if k = k' then some (.bool (a == b)) else none
  | .neq => if k = k' then some (.bool (a != b)) else none
  | .lss => if k = k' then some (.bool (a < b)) else none
  | .leq => if k = k' then some (.bool (a ≤ b)) else none
  | .gtr => if k = k' then some (.bool (a > b)) else none
  | .geq => if k = k' then some (.bool (a ≥ b)) else none
  | .shl => if 0 ≤ b then some (.int k (k.wrap (a * 2 ^ (min b.toNat k.bits)))) else none
  | .shr => if 0 ≤ b then some (.int k (a.fdiv (2 ^ (min b.toNat k.bits)))) else none
  | _ => apure E (binOp op t (.int k a) (.int k' b))

def abin (E : Env) (op : BinOp) (t : TypeId) (xo yo : Operand) (x y : AV) : Option AV :=
  match x, y with
  | .int k a, .int k' b => aint E op t k k' a b
  | x, y => match toV x, toV y with
    | some u, some v => apure E (do eqGuard op t xo yo u v; binOp op t u v)
    | _, _ => none

/-- Comparisons of what names memory with nil: it is none. -/
def isNil (E : Env) (H : Heap) (t : TypeId) (x y : AV) : Bool :=
  match E.un t, x, y with
  | some (.slice _), .osl b ver _ _ _, .nsl => live H b ver
  | some (.slice _), .dsl (_ :: _) _, .nsl => true
  | some (.pointer _), .ptr b ver _, .nptr => live H b ver
  | some (.pointer _), .dptr _, .nptr => true
  | some (.func _ _ _), .fn _ _ _, .nfn => true
  | _, _, _ => false
def anil (E : Env) (H : Heap) (op : BinOp) (t : TypeId) (x y : AV) : Option AV :=
  match op with
  | .eql => if isNil E H t x y then some (.bool false) else none
  | .neq => if isNil E H t x y then some (.bool true) else none
  | _ => none

def aconv (E : Env) (src dst : TypeId) (x : AV) : Option AV :=
  match E.un dst, x with
  | some (.int k), .int _ n => some (.int k (k.wrap n))
  | _, _ => match toV x with
    | some v => apure E (convert src dst v)
    | none => none

def aassert (E : Env) (x : AV) (asserted : TypeId) (ok : Bool) : Option AV :=
  match E.un asserted, x with
  | some (.interface _), _ => none
  | some _, .iface t v => if t = asserted then some (if ok then .tup [v, .bool true] else v) else
      if ok then (match E.ti asserted with
        | some y => (y.zv).map fun z => .tup [z, .bool false]
        | none => none) else none
  | _, _ => none

/-- Built-in functions that leave the memory alone. -/
def abuiltin (E : Env) (H : Heap) (b : Builtin) (ts : Array TypeId) (ty : TypeId) (xs : List AV) : Option AV :=
  match b, xs with
  | .len, [x] => match ts[0]? with
    | some t => alen E H t x
    | none => none
  | .max, [.int k a, .int _ b] => some (.int k (if b > a then b else a))
  | .min, [.int k a, .int _ b] => some (.int k (if b < a then b else a))
  | .min, _ => match toVL xs with
    | some vs => apure E (Builtin.min_ ts ty vs.toArray)
    | none => none
  | .max, _ => match toVL xs with
    | some vs => apure E (Builtin.max_ ts ty vs.toArray)
    | none => none
  | _, _ => none

/-- One operation that calls no Go function and leaves the memory alone. -/
def aopQ (E : Env) (fr : Fr) (H : Heap) (op : Op) (ty : TypeId) : Option AV :=
  match op with
  | .move x | .assign x => ev E fr x
  | .pick c a b => match ev E fr c, ev E fr a, ev E fr b with
    | some (.bool t), some u, some v => some (if t then u else v)
    | _, _, _ => none
  | .build t ps => match evp E fr ps.toList with
    | some l => abuild E t l
    | none => none
  | .load t x => match ev E fr x with
    | some p => aload E H t p
    | none => none
  | .nilCheck x => match ev E fr x with
    | some (.ptr b ver off) => if live H b ver then some (.ptr b ver off) else none
    | some (.dptr cs) => some (.dptr cs)
    | some (.iface t v) => some (.iface t v)
    | some (.fn (.func f) a b) => some (.fn (.func f) a b)
    | some (.yld b) => match H[b]? with
      | some (.loop ..) => some (.yld b)
      | _ => none
    | _ => none
  | .binOp op t x y _ => match ev E fr x, ev E fr y with
    | some u, some v => match abin E op t x y u v with
      | some r => some r
      | none => anil E H op t u v
    | _, _ => none
  | .unOp op _ x => match ev E fr x with
    | some u => match toV u with
      | some v => apure E (Op.unary op v)
      | none => none
    | none => none
  | .convert src dst x => match ev E fr x, E.un src with
    | some u, some _ => aconv E src dst u
    | _, _ => none
  | .makeInterface t x => match ev E fr x, E.un t with
    | some u, some (.interface _) => none
    | some u, some _ => some (.iface t u)
    | _, _ => none
  | .makeFunc (.func f) a b => match evs E fr a.toList, evs E fr b.toList with
    | some u, some v => some (.fn (.func f) u v)
    | _, _ => none
  | .slice t x lo hi none => match ev E fr x, evo E fr lo, evo E fr hi with
    | some u, some l, some h => aslice E H t u l h
    | _, _, _ => none
  | .fieldAddr s x f => match ev E fr x with
    | some u => afieldAddr E H s u f
    | none => none
  | .field s x f => match ev E fr x with
    | some u => afield E s u f
    | none => none
  | .indexAddr t x i => match ev E fr x, ev E fr i with
    | some u, some v => aindexAddr E H t u v
    | _, _ => none
  | .index t x i => match ev E fr x, ev E fr i with
    | some u, some v => aindex E t u v
    | _, _ => none
  | .typeAssert x _ asserted ok => match ev E fr x with
    | some u => aassert E u asserted ok
    | none => none
  | .extract x i => match ev E fr x with
    | some (.tup vs) => vs[i]?
    | _ => none
  | .call { callee := .builtin b, args, argTypes } => match evs E fr args.toList with
    | some xs => abuiltin E H b argTypes ty xs
    | none => none
  | _ => none

/-- One operation that calls no Go function and writes or makes memory. -/
def aopW (E : Env) (fr : Fr) (H : Heap) (op : Op) (ty : TypeId) : Option (AV × Heap) :=
  match op with
  | .alloc t => aalloc E H t
  | .box t x => match ev E fr x with
    | some v => abox E H t v
    | none => none
  | .buildSlice t n ps => match evp E fr ps.toList with
    | some l => abuildSlice E H t n l
    | none => none
  | .store t a x => match ev E fr a, ev E fr x with
    | some p, some v => (astore E H t p v).map (.tup [], ·)
    | _, _ => none
  | .makeSlice t l c => match ev E fr l, ev E fr c with
    | some u, some v => amakeSlice E H t u v
    | _, _ => none
  | .call { callee := .builtin .append, args, argTypes } => match evs E fr args.toList with
    | some [s, x] => match argTypes[0]?, argTypes[1]? with
      | some t, some u => aappend E H t u s x
      | _, _ => none
    | _ => none
  | _ => none

/-- One operation that calls no Go function. -/
def aop (E : Env) (fr : Fr) (H : Heap) (op : Op) (ty : TypeId) : Option (AV × Heap) :=
  match aopQ E fr H op ty with
  | some v => some (v, H)
  | none => aopW E fr H op ty

end Go.Proofs.Ytcdnonggajoghaa
