/- A small machine over an abstract heap, in which the code of a Go function is run: definitions. -/
import Derived.Recover
import Derived.Below
namespace Go.Vm

/-! ### The abstract heap -/

inductive EqKind where
  | ptr | slice | map | func | iface
  deriving Inhabited

/-- functions without a body that the machine has itself -/
inductive ExtK where
  | compare | indexByte
  deriving Inhabited, DecidableEq

/-- Code, with the layout of its types written out. -/
inductive AOp where
  | mov (x : Operand)
  | pick (c a b : Operand)
  | alloc (elem : TypeId) (cells : List Value)
  | box (elem : TypeId) (x : Operand)
  | load (agg : Option Nat) (x : Operand)
  | store (n : Nat) (a x : Operand)
  | nilCheck (x : Operand)
  | bin (op : BinOp) (o : Oper) (x y : Operand)
  | eq (kind : EqKind) (neg : Bool) (o : Oper) (x y : Operand)
  | conv (k : IntKind) (o : Oper) (x : Operand)
  | bytesToStr (x : Operand)
  | strToBytes (elem : TypeId) (x : Operand)
  | fieldAddr (off : Nat) (x : Operand)
  | indexArr (len size : Nat) (x i : Operand)
  | indexSl (size : Nat) (x i : Operand)
  | sliceArr (n size : Nat) (x : Operand) (lo hi : Option Operand)
  | sliceSl (size : Nat) (x : Operand) (lo hi mx : Option Operand)
  | sliceStr (x : Operand) (lo hi : Option Operand)
  | build (zero : List Value) (parts : List (Nat × Nat × Operand))
  | buildSlice (elem : TypeId) (zero : List Value) (len : Nat) (parts : List (Nat × Nat × Operand))
  | field (agg : Option Nat) (off : Nat) (x : Operand)
  | index (len size : Nat) (agg : Option Nat) (x i : Operand)
  | extract (i : Nat) (x : Operand)
  | arrayAt (n : Nat) (x : Operand)
  | mkIface (t : TypeId) (x : Operand)
  | mkFunc (fn : Fn) (first captured : List Operand)
  | assertTo (t : TypeId) (zero : Value) (ok : Bool) (x : Operand)
  | lenStr (x : Operand)
  | lenSl (x : Operand)
  | lenMap (x : Operand)
  | lenArr (n : Nat)
  | cap (x : Operand)
  | makeSlice (elem : TypeId) (size bytes : Nat) (zero : List Value) (len cap : Operand)
  | append (elem : TypeId) (size bytes : Nat) (zero : List Value) (zeros : Bool) (s x : Operand)
  | copy (size : Nat) (d s : Operand)
  | raw (o : Oper)
  | panic (x : Operand)
  | defer (f : Operand) (args : List Operand)
  | callV (f : Operand) (args : List Operand)
  | invoke (recv : Operand) (name : String) (args : List Operand)
  | recover
  | mkMap
  | lookup (kind : TypeDesc) (zero : Value) (ok : Bool) (m k : Operand)
  | mapUpdate (kind : TypeDesc) (m k x : Operand)
  | delete (kind : TypeDesc) (m k : Operand)
  | rangeMap (m : Operand)
  | rangeStr (x : Operand)
  | nextMap (it : Operand)
  | entryMap (it : Operand)
  | ext (k : ExtK) (f : Operand) (args : List Operand)
  | nextStr (it : Operand)
  deriving Inhabited

structure AOper where
  dst : Option Nat
  op : AOp
  guard : Option (Nat × Bool)
  /-- in a region that draws its order: which of the others may still be to come when this one writes; may it panic? -/
  chk : List (Option Nat × AOp × Option (Nat × Bool)) := []
  pan : Bool := false
  deriving Inhabited

inductive ACode where
  | skip
  | seq (a b : ACode)
  | cond (c : Operand) (thn els : ACode)
  | block (id : Nat) (body : ACode)
  | loop (body : ACode)
  | exit (id : Nat)
  | ret
  | region (ops : List AOper)
  | regionD (ops : List AOper)
  | scope (body : ACode)
  | stuck
  | rangeFunc (f : Operand) (params : List Nat) (assign body : Code)
  deriving Inhabited

inductive AObj where
  | dead
  | cells (c : List Value) (es : Nat)
  | map (es : List MapEntry) (clock : Nat)
  | strIter (s : ByteArray) (pos : Nat)
  | mapIter (m : Option Nat) (since : Nat) (seen : List Nat) (stepped : Nat)
  /-- a loop over a function: how it stands, how it was left, the temporaries that its rounds begin with, its code -/
  | loop (state : LoopState) (pending : Option Code) (ts : List Value) (ps : List Nat) (assign body : Code)
  /-- the block for calls that rounds defer: none of them does -/
  | defs (taken : Bool)
  /-- cells that nobody writes -/
  | ro (c : List Value)
  deriving Inhabited

/-- cells that can be read -/
def AObj.cellsOf : AObj → Option (List Value)
  | .cells c _ => some c
  | .ro c => some c
  | _ => none

/-- may it be written? -/
def AObj.isRo : AObj → Bool
  | .ro _ => true
  | _ => false

inductive Tr where
  | nil
  | node (v : AObj) (l r : Tr)
  deriving Inhabited

def Tr.get : Tr → Nat → AObj
  | .nil, _ => .dead
  | .node v l r, i => if i = 0 then v else if i % 2 = 1 then l.get (i / 2) else r.get (i / 2 - 1)

def Tr.mk : Nat → Nat → AObj → Tr
  | 0, _, v => .node v .nil .nil
  | f + 1, i, v => if i = 0 then .node v .nil .nil else if i % 2 = 1 then .node .dead (Tr.mk f (i / 2) v) .nil else .node .dead .nil (Tr.mk f (i / 2 - 1) v)

def Tr.set : Tr → Nat → AObj → Tr
  | .nil, i, o => Tr.mk i i o
  | .node v l r, i, o => if i = 0 then .node o l r else if i % 2 = 1 then .node v (l.set (i / 2) o) r else .node v l (r.set (i / 2 - 1) o)

structure Heap where
  n : Nat
  t : Tr
  deriving Inhabited

def Heap.get (h : Heap) (i : Nat) : AObj := h.t.get i
def Heap.set (h : Heap) (i : Nat) (o : AObj) : Heap := { h with t := h.t.set i o }
def Heap.push (h : Heap) (o : AObj) : Heap := { n := h.n + 1, t := h.t.set h.n o }
/-- The heap ahead of a call: block 0 is nobody's. -/
def Heap.init : Heap := { n := 1, t := .node .dead .nil .nil }

/-! ### Values -/

def lget : List Value → Nat → Value
  | [], _ => undef
  | v :: _, 0 => v
  | _ :: l, n + 1 => lget l n

def lset : List Value → Nat → Value → List Value
  | [], _, _ => []
  | _ :: l, 0, x => x :: l
  | v :: l, n + 1, x => v :: lset l n x

mutual
/-- no address is in it -/
def ground : Value → Bool
  | .bool _ | .int _ _ | .float _ _ | .complex _ _ _ | .string _ | .pointer none | .slice none _ _ | .map none | .chan none | .nilFunc | .nilIface => true
  | .pointer (some _) | .slice (some _) _ _ | .map (some _) | .chan (some _) => false
  | .func (.func _) a b => groundA a && groundA b
  | .func _ _ _ => false
  | .iface _ v => ground v
  | .agg cs => groundA cs
  | .tuple cs => groundA cs
def groundA : Array Value → Bool
  | ⟨l⟩ => groundL l
def groundL : List Value → Bool
  | [] => true
  | v :: l => ground v && groundL l
end

mutual
def veq : Value → Value → Bool
  | .bool a, .bool b => a == b
  | .int j a, .int k b => j == k && a == b
  | .float j a, .float k b => j == k && a == b
  | .complex j a c, .complex k b d => j == k && a == b && c == d
  | .string a, .string b => a.data.toList == b.data.toList
  | .pointer a, .pointer b => a == b
  | .slice a l c, .slice b m d => a == b && l == m && c == d
  | .map a, .map b => a == b
  | .chan a, .chan b => a == b
  | .func f a b, .func g c d => f == g && veqA a c && veqA b d
  | .nilFunc, .nilFunc => true
  | .iface t v, .iface u w => t == u && veq v w
  | .nilIface, .nilIface => true
  | .agg a, .agg b => veqA a b
  | .tuple a, .tuple b => veqA a b
  | _, _ => false
def veqA : Array Value → Array Value → Bool
  | ⟨l⟩, ⟨m⟩ => veqL l m
def veqL : List Value → List Value → Bool
  | [], [] => true
  | v :: l, w :: m => veq v w && veqL l m
  | _, _ => false
end

def eval (ts : List Value) : Operand → Value
  | .tmp t => lget ts t
  | .const v => match ground v with
    | true => v
    | false => undef
  | .global _ => .pointer (some ⟨0, 0, none⟩)
  | .func f => .func (.func f) #[] #[]

/-! ### What an operation answers -/

inductive R where
  | ok (v : Value) (h : Heap)
  | pan (v : Value) (h : Heap)
  | bad
  deriving Inhabited

/-- A computation that asks nobody: its answer. -/
def pr {α : Type} (P : Program) : Sem α → Option (Except Value α)
  | .pure a => some (.ok a)
  | .program k => pr P (k P)
  | .halt (.panic v) => some (.error v)
  | _ => none

def rawOp (P : Program) (e : Operand → Value) (o : Oper) (h : Heap) : R :=
  if o.op.operands.toList.all (fun x => ground (e x)) then
    match pr P (execOp e o) with
    | some (.ok (.value v)) => if ground v then .ok v h else .bad
    | some (.error v) => if ground v then .pan v h else .bad
    | _ => .bad
  else .bad

def nilDeref (P : Program) (h : Heap) : R := .pan (.iface P.rt.errorString (strVal "invalid memory address or nil pointer dereference")) h

/-- n cells from a place on -/
def cellsAt (h : Heap) (b off n : Nat) : Option (List Value) :=
  if n = 0 then some [] else
  match (h.get b).cellsOf with
  | some c => if off + n ≤ c.length then some ((c.drop off).take n) else none
  | none => none

/-- a list with others laid over it from a place on -/
def over : List Value → Nat → List Value → List Value
  | l, 0, [] => l
  | [], _, _ => []
  | _ :: l, 0, x :: xs => x :: over l 0 xs
  | v :: l, n + 1, xs => v :: over l n xs

def putAt (h : Heap) (b off : Nat) (xs : List Value) : Option Heap :=
  match h.get b with
  | .cells c es => if off + xs.length ≤ c.length ∧ xs.all Value.oneCell' = true then some (h.set b (.cells (over c off xs) es)) else none
  | _ => none


def fillL (cells : List Value) : List (Nat × Nat × Value) → Option (List Value)
  | [] => some cells
  | (off, size, v) :: rest =>
    if v.cells.size = size ∧ off + size ≤ cells.length then fillL (over cells off v.cells.toList) rest else none

def repeatL (zero : List Value) : Nat → List Value
  | 0 => []
  | n + 1 => zero ++ repeatL zero n

def bytesOf : List Value → Option (List UInt8)
  | [] => some []
  | .int .u8 n :: l => (bytesOf l).map (UInt8.ofNat n.toNat :: ·)
  | _ => none

def ofBytes (s : ByteArray) : List Value := s.data.toList.map fun b => .int .u8 b.toNat

/-- an index below a length -/
def idx (len : Nat) : Value → Option Nat
  | .int _ i => if 0 ≤ i ∧ i < len then some i.toNat else none
  | _ => none

/-- a bound up to a limit; without one, the other number -/
def bnd (e : Operand → Value) (lim dflt : Nat) : Option Operand → Option Nat
  | none => some dflt
  | some x => idx (lim + 1) (e x)

def binInt (op : BinOp) (k : IntKind) (a b : Int) : Option Value :=
  match op with
  | .add => some (.int k (k.wrap (a + b)))
  | .sub => some (.int k (k.wrap (a - b)))
  | .mul => some (.int k (k.wrap (a * b)))
  | .eql => some (.bool (a == b))
  | .neq => some (.bool (a != b))
  | .lss => some (.bool (decide (a < b)))
  | .leq => some (.bool (decide (a ≤ b)))
  | .gtr => some (.bool (decide (a > b)))
  | .geq => some (.bool (decide (a ≥ b)))
  | _ => none

def alive (h : Heap) (a : Addr) : Bool :=
  match h.get a.block with
  | .cells c es => decide (a.off < c.length) && es != 1
  | _ => false

/-- Go's == where it is told without a look at memory -/
def eqv (h : Heap) : EqKind → Value → Value → Option Bool
  | .ptr, .pointer none, .pointer b => some b.isNone
  | .ptr, .pointer (some _), .pointer none => some false
  | .ptr, .pointer (some a), .pointer (some b) => if alive h a && alive h b then some (a.block == b.block && a.off == b.off) else none
  | .slice, .slice none _ _, .slice b _ _ => some b.isNone
  | .slice, .slice (some _) _ _, .slice none _ _ => some false
  | .map, .map none, .map b => some b.isNone
  | .map, .map (some _), .map none => some false
  | .func, .nilFunc, .nilFunc => some true
  | .func, .nilFunc, .func _ _ _ => some false
  | .func, .func _ _ _, .nilFunc => some false
  | .iface, .nilIface, .iface _ _ => some false
  | .iface, .iface _ _, .nilIface => some false
  | _, _, _ => none

def binOpV (P : Program) (e : Operand → Value) (op : BinOp) (o : Oper) (x y : Operand) (h : Heap) : R :=
  match e x, e y with
  | .int k a, .int k' b =>
    if k = k' then
      match binInt op k a b with
      | some v => .ok v h
      | none => rawOp P e o h
    else rawOp P e o h
  | _, _ => rawOp P e o h

def eqOpV (P : Program) (e : Operand → Value) (kind : EqKind) (neg : Bool) (o : Oper) (x y : Operand) (h : Heap) : R :=
  match eqv h kind (e x) (e y) with
  | some b => .ok (.bool (neg != b)) h
  | none => rawOp P e o h

def sliceOf (e : Operand → Value) (size : Nat) (v : Value) (lo hi mx : Option Operand) (h : Heap) : R :=
  match v with
  | .slice base len cap =>
    match bnd e cap cap mx with
    | none => .bad
    | some m =>
    match bnd e m len hi with
    | none => .bad
    | some r =>
    match bnd e r 0 lo with
    | none => .bad
    | some l =>
      if m < r then .bad else
      match base with
      | none => .ok (.slice none (r - l) (m - l)) h
      | some a =>
        match a.spot, mx with
        | none, _ => .ok (.slice (some (if m = l then a else ⟨a.block, a.off + l * size, none⟩)) (r - l) (m - l)) h
        | some _, some _ => .ok (.slice (some (if m = l then ⟨a.block, a.off, none⟩ else ⟨a.block, a.off + l * size, none⟩)) (r - l) (m - l)) h
        | some k, none =>
          if l = 0 then .ok (.slice (some a) r m) h
          else if m = l then .ok (.slice (some ⟨0, 0, some k⟩) 0 0) h
          else match h.get a.block with
            | .cells _ es => if es = size then .ok (.slice (some ⟨a.block, a.off + l * size, some k⟩) (r - l) (m - l)) h else .bad
            | _ => .bad
  | _ => .bad

def newCells (h : Heap) (size : Nat) (zero : List Value) (zeros : Bool) : Value → Option (Nat × List Value)
  | .slice none n _ => if zeros || n != 0 then none else some (0, [])
  | .slice (some a) n _ => if zeros then none else (cellsAt h a.block a.off (n * size)).map fun c => (n, c)
  | .string s => if zeros || size ≠ 1 then none else some (s.size, ofBytes s)
  | .int .i64 n => if zeros && decide (0 ≤ n) then some (n.toNat, repeatL zero n.toNat) else none
  | _ => none

def appendOf (size bytes : Nat) (zero : List Value) (zeros : Bool) (s x : Value) (h : Heap) : R :=
  if size = 0 then .bad else
  match s, newCells h size zero zeros x with
  | .slice base len cap, some (n, new) =>
    let need := len + n
    if need ≥ 1048576 ∨ bytes ≥ 1048576 then .bad else
    match base with
    | none =>
      if cap ≠ 0 ∨ len ≠ 0 then .bad
      else if need = 0 then .ok (.slice none 0 0) h
      else .ok (.slice (some ⟨h.n, 0, some 0⟩) need need) (h.push (.cells new size))
    | some a =>
      if need ≤ cap then
        match putAt h a.block (a.off + len * size) new with
        | some h' => .ok (.slice (some a) need cap) h'
        | none => .bad
      else
        match cellsAt h a.block a.off (len * size) with
        | none => .bad
        | some old =>
          match a.spot with
          | none => .ok (.slice (some ⟨h.n, 0, some 0⟩) need need) (h.push (.cells (old ++ new) size))
          | some _ =>
            match h.get a.block with
            | .cells _ es => if es = size ∧ new.all Value.oneCell' = true then .ok (.slice (some ⟨h.n, 0, some 0⟩) need need) ((h.set a.block .dead).push (.cells (old ++ new) size)) else .bad
            | _ => .bad
  | _, _ => .bad

def copyOf (size : Nat) (d s : Value) (h : Heap) : R :=
  match d with
  | .slice base len _ =>
    match s with
    | .slice (some b) n _ =>
      match cellsAt h b.block b.off (min n len * size) with
      | none => .bad
      | some c =>
        match base with
        | none => .ok (.int .i64 (min n len : Nat)) h
        | some a =>
          match putAt h a.block a.off c with
          | some h' => .ok (.int .i64 (min n len : Nat)) h'
          | none => .bad
    | .slice none n _ => if min n len = 0 then .ok (.int .i64 0) h else .bad
    | .string t =>
      if size ≠ 1 then .bad else
      match base with
      | none => .ok (.int .i64 (min t.size len : Nat)) h
      | some a =>
        match putAt h a.block a.off ((ofBytes t).take (min t.size len)) with
        | some h' => .ok (.int .i64 (min t.size len : Nat)) h'
        | none => .bad
    | _ => .bad
  | _ => .bad

/-! ### Maps: keys of one kind -/

def findAt (kind : TypeDesc) (k : Value) : List MapEntry → Nat → Option (Option (Nat × Value)) := Instr.findNow kind k

def plainKind : TypeDesc → Bool
  | .int _ | .string | .bool => true
  | _ => false

def mapAt (h : Heap) : Value → Option (Option (Nat × List MapEntry × Nat))
  | .map none => some none
  | .map (some r) =>
    match h.get r with
    | .map es clock => some (some (r, es, clock))
    | _ => none
  | _ => none

/-- the bytes of a string or of a slice -/
def bytesV (h : Heap) : Value → Option (List UInt8)
  | .string s => some s.data.toList
  | .slice none _ _ => some []
  | .slice (some a) n _ => (cellsAt h a.block a.off n).bind bytesOf
  | _ => none

def extName (n : String) : Option ExtK :=
  if n = "internal/bytealg.Compare" then some .compare
  else if n = "internal/bytealg.IndexByteString" then some .indexByte
  else none

/-- a function without a body, where the machine has it -/
def extFn (P : Program) (f : FuncId) : Option ExtK :=
  match P.funcs[f]? with
  | some fn => if fn.body.isNone && (Extern.findNext fn).isNone then extName fn.name else none
  | none => none

def extV (h : Heap) (k : ExtK) (args : List Value) : Option Value :=
  match k, args with
  | .compare, [a, b] => match bytesV h a, bytesV h b with
    | some x, some y => some (.int .i64 (Extern.BytealgCompare.cmp ⟨⟨x⟩⟩ ⟨⟨y⟩⟩))
    | _, _ => none
  | .indexByte, [b, .int .u8 c] => match bytesV h b with
    | some x => match (List.range (ByteArray.mk ⟨x⟩).size).find? fun i => (ByteArray.mk ⟨x⟩)[i]! == c.toNat.toUInt8 with
      | some i => some (.int .i64 i)
      | none => some (.int .i64 (-1))
    | none => none
  | _, _ => none

/-! ### One operation -/

def xop (P : Program) (e : Operand → Value) (h : Heap) : AOp → R
  | .mov x => .ok (e x) h
  | .pick c a b =>
    match e c with
    | .bool t => .ok (if t then e a else e b) h
    | _ => .bad
  | .alloc _ cells => .ok (.pointer (some ⟨h.n, 0, none⟩)) (h.push (.cells cells 0))
  | .box _ x => .ok (.pointer (some ⟨h.n, 0, none⟩)) (h.push (.cells (e x).cells.toList 0))
  | .load agg x =>
    match e x with
    | .pointer (some a) =>
      match agg with
      | some n => match cellsAt h a.block a.off n with
        | some c => .ok (.agg ⟨c⟩) h
        | none => .bad
      | none => match cellsAt h a.block a.off 1 with
        | some (v :: _) => .ok v h
        | _ => .bad
    | _ => .bad
  | .store n a x =>
    match e a with
    | .pointer (some a) =>
      if (e x).cells.size = n then
        match putAt h a.block a.off (e x).cells.toList with
        | some h' => .ok undef h'
        | none => .bad
      else .bad
    | _ => .bad
  | .nilCheck x =>
    match e x with
    | .pointer none | .nilIface | .nilFunc => nilDeref P h
    | .pointer (some a) => .ok (.pointer (some a)) h
    | .func (.func f) a b => .ok (.func (.func f) a b) h
    | .iface t v => .ok (.iface t v) h
    | _ => .bad
  | .bin op o x y => binOpV P e op o x y h
  | .eq kind neg o x y => eqOpV P e kind neg o x y h
  | .conv k o x =>
    match e x with
    | .int _ n => .ok (.int k (k.wrap n)) h
    | _ => rawOp P e o h
  | .bytesToStr x =>
    match e x with
    | .slice none _ _ => .ok (.string .empty) h
    | .slice (some a) n _ =>
      match (cellsAt h a.block a.off n).bind bytesOf with
      | some s => .ok (.string ⟨⟨s⟩⟩) h
      | none => .bad
    | _ => .bad
  | .strToBytes _ x =>
    match e x with
    | .string s => .ok (.slice (some ⟨h.n, 0, some 1⟩) s.size s.size) (h.push (.cells (ofBytes s) 1))
    | _ => .bad
  | .fieldAddr off x =>
    match e x with
    | .pointer (some a) => .ok (.pointer (some (if off = 0 then a else ⟨a.block, a.off + off, none⟩))) h
    | _ => .bad
  | .indexArr len size x i =>
    match e x, idx len (e i) with
    | .pointer (some a), some j => .ok (.pointer (some ⟨a.block, a.off + j * size, none⟩)) h
    | _, _ => .bad
  | .indexSl size x i =>
    match e x with
    | .slice (some a) len _ =>
      match idx len (e i) with
      | some j => .ok (.pointer (some ⟨a.block, a.off + j * size, none⟩)) h
      | none => .bad
    | _ => .bad
  | .sliceArr n size x lo hi =>
    match e x with
    | .pointer (some a) => sliceOf e size (.slice (some ⟨a.block, a.off, none⟩) n n) lo hi none h
    | _ => .bad
  | .sliceSl size x lo hi mx => sliceOf e size (e x) lo hi mx h
  | .sliceStr x lo hi =>
    match e x with
    | .string s =>
      match bnd e s.size s.size hi with
      | none => .bad
      | some r => match bnd e r 0 lo with
        | none => .bad
        | some l => .ok (.string (s.extract l r)) h
    | _ => .bad
  | .build zero parts =>
    match fillL zero (parts.map fun p => (p.1, p.2.1, e p.2.2)) with
    | some c => .ok (.agg ⟨c⟩) h
    | none => .bad
  | .buildSlice _ zero len parts =>
    match fillL zero (parts.map fun p => (p.1, p.2.1, e p.2.2)) with
    | some c => .ok (.slice (some ⟨h.n, 0, none⟩) len len) (h.push (.cells c 0))
    | none => .bad
  | .field agg off x =>
    match e x with
    | .agg ⟨c⟩ =>
      match agg with
      | some n => if off + n ≤ c.length then .ok (.agg ⟨(c.drop off).take n⟩) h else .bad
      | none => if off < c.length then .ok (lget c off) h else .bad
    | _ => .bad
  | .index len size agg x i =>
    match e x, idx len (e i) with
    | .agg ⟨c⟩, some j =>
      match agg with
      | some n => if j * size + n ≤ c.length then .ok (.agg ⟨(c.drop (j * size)).take n⟩) h else .bad
      | none => if j * size < c.length then .ok (lget c (j * size)) h else .bad
    | _, _ => .bad
  | .extract i x =>
    match e x with
    | .tuple ⟨c⟩ => if i < c.length then .ok (lget c i) h else .bad
    | _ => .bad
  | .arrayAt n x =>
    match e x with
    | .slice (some a) len _ => if n ≤ len then .ok (.pointer (some ⟨a.block, a.off, none⟩)) h else .bad
    | _ => .bad
  | .mkIface t x => .ok (.iface t (e x)) h
  | .mkFunc fn first captured => .ok (.func fn ⟨first.map e⟩ ⟨captured.map e⟩) h
  | .assertTo t zero ok x =>
    match e x with
    | .iface u v =>
      if u = t then .ok (if ok then .tuple #[v, .bool true] else v) h
      else if ok then .ok (.tuple #[zero, .bool false]) h else .bad
    | .nilIface => if ok then .ok (.tuple #[zero, .bool false]) h else .bad
    | _ => .bad
  | .lenStr x =>
    match e x with
    | .string s => .ok (.int .i64 s.size) h
    | _ => .bad
  | .lenSl x =>
    match e x with
    | .slice _ n _ => .ok (.int .i64 n) h
    | _ => .bad
  | .lenMap x =>
    match mapAt h (e x) with
    | some none => .ok (.int .i64 0) h
    | some (some (_, es, _)) => .ok (.int .i64 es.length) h
    | none => .bad
  | .lenArr n => .ok (.int .i64 n) h
  | .cap x =>
    match e x with
    | .slice none _ n => .ok (.int .i64 n) h
    | .slice (some ⟨_, _, none⟩) _ n => .ok (.int .i64 n) h
    | _ => .bad
  | .makeSlice _ size bytes zero len cap =>
    match e len, e cap with
    | .int .i64 l, .int .i64 c =>
      if 0 ≤ l ∧ l ≤ c ∧ c < 1048576 ∧ bytes < 1048576 ∧ size ≠ 0 then
        .ok (.slice (some ⟨h.n, 0, none⟩) l.toNat c.toNat) (h.push (.cells (repeatL zero c.toNat) 0))
      else .bad
    | _, _ => .bad
  | .append _ size bytes zero zeros s x => appendOf size bytes zero zeros (e s) (e x) h
  | .copy size d s => copyOf size (e d) (e s) h
  | .raw o => rawOp P e o h
  | .panic x =>
    match e x with
    | .iface t v => .pan (.iface t v) h
    | _ => .bad
  | .mkMap => .ok (.map (some h.n)) (h.push (.map [] 0))
  | .lookup kind zero ok m k =>
    match mapAt h (e m) with
    | some none => .ok (if ok then .tuple #[zero, .bool false] else zero) h
    | some (some (_, es, _)) =>
      match Instr.findNow kind (e k) es 0 with
      | some (some (_, v)) => .ok (if ok then .tuple #[v, .bool true] else v) h
      | some none => .ok (if ok then .tuple #[zero, .bool false] else zero) h
      | none => .bad
    | none => .bad
  | .mapUpdate kind m k x =>
    match mapAt h (e m) with
    | some (some (r, es, clock)) =>
      match Instr.findNow kind (e k) es 0 with
      | some (some (i, _)) => .ok undef (h.set r (.map (es.modify i fun en => { en with key := e k, val := e x }) clock))
      | some none => .ok undef (h.set r (.map (es ++ [{ key := e k, val := e x, born := clock }]) (clock + 1)))
      | none => .bad
    | _ => .bad
  | .delete kind m k =>
    match mapAt h (e m) with
    | some none => .ok undef h
    | some (some (r, es, clock)) =>
      match Instr.findNow kind (e k) es 0 with
      | some (some (i, _)) => .ok undef (h.set r (.map (es.eraseIdx i) clock))
      | some none => .ok undef h
      | none => .bad
    | none => .bad
  | .rangeStr x =>
    match e x with
    | .string s => .ok (.pointer (some ⟨h.n, 0, none⟩)) (h.push (.strIter s 0))
    | _ => .bad
  | .rangeMap m =>
    match mapAt h (e m) with
    | some none => .ok (.pointer (some ⟨h.n, 0, none⟩)) (h.push (.mapIter none 0 [] 0))
    | some (some (r, _, clock)) => .ok (.pointer (some ⟨h.n, 0, none⟩)) (h.push (.mapIter (some r) clock [] clock))
    | none => .bad
  | .nextStr it =>
    match e it with
    | .pointer (some ⟨r, 0, none⟩) =>
      match h.get r with
      | .strIter s pos =>
        if pos < s.size then
          .ok (.tuple #[.bool true, .int .i64 pos, .int .i32 (Utf8.decode s pos).1]) (h.set r (.strIter s (pos + (Utf8.decode s pos).2)))
        else .ok (.tuple #[.bool false]) h
      | _ => .bad
    | _ => .bad
  | .entryMap it =>
    match e it with
    | .pointer (some ⟨r, 0, none⟩) =>
      match h.get r with
      | .mapIter (some m) _ seen stepped =>
        match seen.getLast?, h.get m with
        | some stamp, .map es clock =>
          if clock = stepped then
            match es.find? (fun en => en.born == stamp) with
            | some en => .ok (.tuple #[en.key, en.val]) h
            | none => .bad
          else .bad
        | _, _ => .bad
      | _ => .bad
    | _ => .bad
  | .ext k f args =>
    match e f with
    | .func (.func fid) ⟨[]⟩ ⟨[]⟩ =>
      if extFn P fid = some k then
        match extV h k (args.map e) with
        | some v => .ok v h
        | none => .bad
      else .bad
    | _ => .bad
  | .defer _ _ | .callV _ _ | .invoke _ _ _ | .recover | .nextMap _ => .bad

end Go.Vm
