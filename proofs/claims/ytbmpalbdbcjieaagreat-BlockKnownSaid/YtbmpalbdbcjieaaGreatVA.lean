/- A small machine over an abstract heap, in which the code of a Go function is run: definitions. -/
import Derived.Recover
import Derived.Below
import Derived.Orders
import Derived.Laws.Cells
import Derived.WalkKit
namespace Go.Vm
inductive EqKind where
  | ptr | slice | map | func | iface
  deriving Inhabited
inductive ExtK where
  | compare | indexByte
  deriving Inhabited, DecidableEq
inductive AOp where
  | mov (x : Operand)
  | pick (c a b : Operand)
  | alloc (elem : TypeId) (cells : List Value)
  | box (elem : TypeId) (x : Operand)
  | load (agg : Option Nat) (x : Operand)
  | store (n : Nat) (a x : Operand)
  | nilCheck (x : Operand)
  | bin (op : BinOp) (o : Oper) (x y : Operand)
  | eq (kind : EqKind) (neg : Bool) (o : Oper) (x y : Operand)
  | conv (k : IntKind) (o : Oper) (x : Operand)
  | bytesToStr (x : Operand)
  | strToBytes (elem : TypeId) (x : Operand)
  | fieldAddr (off : Nat) (x : Operand)
  | indexArr (len size : Nat) (x i : Operand)
  | indexSl (size : Nat) (x i : Operand)
  | sliceArr (n size : Nat) (x : Operand) (lo hi : Option Operand)
  | sliceSl (size : Nat) (x : Operand) (lo hi mx : Option Operand)
  | sliceStr (x : Operand) (lo hi : Option Operand)
  | build (zero : List Value) (parts : List (Nat × Nat × Operand))
  | buildSlice (elem : TypeId) (zero : List Value) (len : Nat) (parts : List (Nat × Nat × Operand))
  | field (agg : Option Nat) (off : Nat) (x : Operand)
  | index (len size : Nat) (agg : Option Nat) (x i : Operand)
  | extract (i : Nat) (x : Operand)
  | arrayAt (n : Nat) (x : Operand)
  | mkIface (t : TypeId) (x : Operand)
  | mkFunc (fn : Fn) (first captured : List Operand)
  | assertTo (t : TypeId) (zero : Value) (ok : Bool) (x : Operand)
  | lenStr (x : Operand)
  | lenSl (x : Operand)
  | lenMap (x : Operand)
  | lenArr (n : Nat)
  | cap (x : Operand)
  | makeSlice (elem : TypeId) (size bytes : Nat) (zero : List Value) (len cap : Operand)
  | append (elem : TypeId) (size bytes : Nat) (zero : List Value) (zeros : Bool) (s x : Operand)
  | copy (size : Nat) (d s : Operand)
  | raw (o : Oper)
  | panic (x : Operand)
  | defer (f : Operand) (args : List Operand)
  | callV (f : Operand) (args : List Operand)
  | invoke (recv : Operand) (name : String) (args : List Operand)
  | recover
  | mkMap
  | lookup (kind : TypeDesc) (zero : Value) (ok : Bool) (m k : Operand)
  | mapUpdate (kind : TypeDesc) (m k x : Operand)
  | delete (kind : TypeDesc) (m k : Operand)
  | rangeMap (m : Operand)
  | rangeStr (x : Operand)
  | nextMap (it : Operand)
  | entryMap (it : Operand)
  | ext (k : ExtK) (f : Operand) (args : List Operand)
  | nextStr (it : Operand)
  deriving Inhabited
structure AOper where
  dst : Option Nat
  op : AOp
  guard : Option (Nat × Bool)
  chk : List (Option Nat × AOp × Option (Nat × Bool)) := []
  pan : Bool := false
  deriving Inhabited
structure GOp where
  i : Nat
  op : AOper
  wait : List Nat
  res : Option Nat
  deriving Inhabited
inductive ACode where
  | skip
  | seq (a b : ACode)
  | cond (c : Operand) (thn els : ACode)
  | block (id : Nat) (body : ACode)
  | loop (body : ACode)
  | exit (id : Nat)
  | ret
  | region (ops : List AOper)
  | regionD (ops : List AOper)
  | regionM (ls : List (List AOper))
  | regionG (rd : List AOper) (wr : List GOp)
  | scope (body : ACode)
  | stuck
  | rangeFunc (f : Operand) (params : List Nat) (assign body : Code)
  deriving Inhabited
inductive AObj where
  | dead
  | cells (c : List Value) (es : Nat)
  | map (es : List MapEntry) (clock : Nat)
  | strIter (s : ByteArray) (pos : Nat)
  | mapIter (m : Option Nat) (since : Nat) (seen : List Nat) (stepped : Nat)
  | loop (state : LoopState) (pending : Option Code) (ts : List Value) (ps : List Nat) (assign body : Code)
  | defs (taken : Bool)
  | ro (c : List Value)
  deriving Inhabited
def AObj.cellsOf : AObj → Option (List Value)
  | .cells c _ => some c
  | .ro c => some c
  | _ => none
def AObj.isRo : AObj → Bool
  | .ro _ => true
  | _ => false
inductive Tr where
  | nil
  | node (v : AObj) (l r : Tr)
  deriving Inhabited
def Tr.get : Tr → Nat → AObj
  | .nil, _ => .dead
  | .node v l r, i => if i = 0 then v else if i % 2 = 1 then l.get (i / 2) else r.get (i / 2 - 1)
def Tr.mk : Nat → Nat → AObj → Tr
  | 0, _, v => .node v .nil .nil
  | f + 1, i, v => if i = 0 then .node v .nil .nil else if i % 2 = 1 then .node .dead (Tr.mk f (i / 2) v) .nil else .node .dead .nil (Tr.mk f (i / 2 - 1) v)
def Tr.set : Tr → Nat → AObj → Tr
  | .nil, i, o => Tr.mk i i o
  | .node v l r, i, o => if i = 0 then .node o l r else if i % 2 = 1 then .node v (l.set (i / 2) o) r else .node v l (r.set (i / 2 - 1) o)
structure Heap where
  n : Nat
  t : Tr
  deriving Inhabited
def Heap.get (h : Heap) (i : Nat) : AObj := h.t.get i
def Heap.set (h : Heap) (i : Nat) (o : AObj) : Heap := { h with t := h.t.set i o }
def Heap.push (h : Heap) (o : AObj) : Heap := { n := h.n + 1, t := h.t.set h.n o }
def Heap.init : Heap := { n := 1, t := .node .dead .nil .nil }
def lget : List Value → Nat → Value
  | [], _ => undef
  | v :: _, 0 => v
  | _ :: l, n + 1 => lget l n
def lset : List Value → Nat → Value → List Value
  | [], _, _ => []
  | _ :: l, 0, x => x :: l
  | v :: l, n + 1, x => v :: lset l n x
mutual
def ground : Value → Bool
  | .bool _ | .int _ _ | .float _ _ | .complex _ _ _ | .string _ | .pointer none | .slice none _ _ | .map none | .chan none | .nilFunc | .nilIface => true
  | .pointer (some _) | .slice (some _) _ _ | .map (some _) | .chan (some _) => false
  | .func (.func _) a b => groundA a && groundA b
  | .func _ _ _ => false
  | .iface _ v => ground v
  | .agg cs => groundA cs
  | .tuple cs => groundA cs
def groundA : Array Value → Bool
  | ⟨l⟩ => groundL l
def groundL : List Value → Bool
  | [] => true
  | v :: l => ground v && groundL l
end
mutual
def veq : Value → Value → Bool
  | .bool a, .bool b => a == b
  | .int j a, .int k b => j == k && a == b
  | .float j a, .float k b => j == k && a == b
  | .complex j a c, .complex k b d => j == k && a == b && c == d
  | .string a, .string b => a.data.toList == b.data.toList
  | .pointer a, .pointer b => a == b
  | .slice a l c, .slice b m d => a == b && l == m && c == d
  | .map a, .map b => a == b
  | .chan a, .chan b => a == b
  | .func f a b, .func g c d => f == g && veqA a c && veqA b d
  | .nilFunc, .nilFunc => true
  | .iface t v, .iface u w => t == u && veq v w
  | .nilIface, .nilIface => true
  | .agg a, .agg b => veqA a b
  | .tuple a, .tuple b => veqA a b
  | _, _ => false
def veqA : Array Value → Array Value → Bool
  | ⟨l⟩, ⟨m⟩ => veqL l m
def veqL : List Value → List Value → Bool
  | [], [] => true
  | v :: l, w :: m => veq v w && veqL l m
  | _, _ => false
end
def eval (ts : List Value) : Operand → Value
  | .tmp t => lget ts t
  | .const v => match ground v with
    | true => v
    | false => undef
  | .global _ => .pointer (some ⟨0, 0, none⟩)
  | .func f => .func (.func f) #[] #[]
inductive R where
  | ok (v : Value) (h : Heap)
  | pan (v : Value) (h : Heap)
  | bad
  deriving Inhabited
def pr {α : Type} (P : Program) : Sem α → Option (Except Value α)
  | .pure a => some (.ok a)
  | .program k => pr P (k P)
  | .halt (.panic v) => some (.error v)
  | _ => none
def rawOp (P : Program) (e : Operand → Value) (o : Oper) (h : Heap) : R :=
  if o.op.operands.toList.all (fun x => ground (e x)) then
    match pr P (execOp e o) with
    | some (.ok (.value v)) => if ground v then .ok v h else .bad
    | some (.error v) => if ground v then .pan v h else .bad
    | _ => .bad
  else .bad
def nilDeref (P : Program) (h : Heap) : R := .pan (.iface P.rt.errorString (strVal "invalid memory address or nil pointer dereference")) h
def findM (P : Program) (kind : TypeDesc) (k : Value) (es : List MapEntry) : Option (Option (Nat × Value)) :=
  match kind with
  | .slice kt =>
    if ground k && es.all (fun e => ground e.key) then
      match pr P (Instr.checkKey true 10000 kt k), pr P (Instr.checkKey false 10000 kt k), pr P (Instr.findAsking kt k es) with
      | some (.ok ()), some (.ok ()), some (.ok r) => some r
      | _, _, _ => none
    else none
  | kd => Instr.findNow kd k es 0
def cellsAt (h : Heap) (b off n : Nat) : Option (List Value) :=
  if n = 0 then some [] else
  match (h.get b).cellsOf with
  | some c => if off + n ≤ c.length then some ((c.drop off).take n) else none
  | none => none
def over : List Value → Nat → List Value → List Value
  | l, 0, [] => l
  | [], _, _ => []
  | _ :: l, 0, x :: xs => x :: over l 0 xs
  | v :: l, n + 1, xs => v :: over l n xs
def putAt (h : Heap) (b off : Nat) (xs : List Value) : Option Heap :=
  match h.get b with
  | .cells c es => if off + xs.length ≤ c.length ∧ xs.all Value.oneCell' = true then some (h.set b (.cells (over c off xs) es)) else none
  | _ => none
def fillL (cells : List Value) : List (Nat × Nat × Value) → Option (List Value)
  | [] => some cells
  | (off, size, v) :: rest =>
    if v.cells.size = size ∧ off + size ≤ cells.length then fillL (over cells off v.cells.toList) rest else none
def repeatL (zero : List Value) : Nat → List Value
  | 0 => []
  | n + 1 => zero ++ repeatL zero n
def bytesOf : List Value → Option (List UInt8)
  | [] => some []
  | .int .u8 n :: l => (bytesOf l).map (UInt8.ofNat n.toNat :: ·)
  | _ => none
def ofBytes (s : ByteArray) : List Value := s.data.toList.map fun b => .int .u8 b.toNat
def idx (len : Nat) : Value → Option Nat
  | .int _ i => if 0 ≤ i ∧ i < len then some i.toNat else none
  | _ => none
def bnd (e : Operand → Value) (lim dflt : Nat) : Option Operand → Option Nat
  | none => some dflt
  | some x => idx (lim + 1) (e x)
def binInt (op : BinOp) (k : IntKind) (a b : Int) : Option Value :=
  match op with
  | .add => some (.int k (k.wrap (a + b)))
  | .sub => some (.int k (k.wrap (a - b)))
  | .mul => some (.int k (k.wrap (a * b)))
  | .eql => some (.bool (a == b))
  | .neq => some (.bool (a != b))
  | .lss => some (.bool (decide (a < b)))
  | .leq => some (.bool (decide (a ≤ b)))
  | .gtr => some (.bool (decide (a > b)))
  | .geq => some (.bool (decide (a ≥ b)))
  | _ => none
def alive (h : Heap) (a : Addr) : Bool :=
  match h.get a.block with
  | .cells c es => decide (a.off < c.length) && es != 1
  | _ => false
def eqv (h : Heap) : EqKind → Value → Value → Option Bool
  | .ptr, .pointer none, .pointer b => some b.isNone
  | .ptr, .pointer (some _), .pointer none => some false
  | .ptr, .pointer (some a), .pointer (some b) => if alive h a && alive h b then some (a.block == b.block && a.off == b.off) else none
  | .slice, .slice none _ _, .slice b _ _ => some b.isNone
  | .slice, .slice (some _) _ _, .slice none _ _ => some false
  | .map, .map none, .map b => some b.isNone
  | .map, .map (some _), .map none => some false
  | .func, .nilFunc, .nilFunc => some true
  | .func, .nilFunc, .func _ _ _ => some false
  | .func, .func _ _ _, .nilFunc => some false
  | .iface, .nilIface, .iface _ _ => some false
  | .iface, .iface _ _, .nilIface => some false
  | _, _, _ => none
def binOpV (P : Program) (e : Operand → Value) (op : BinOp) (o : Oper) (x y : Operand) (h : Heap) : R :=
  match e x, e y with
  | .int k a, .int k' b =>
    if k = k' then
      match binInt op k a b with
      | some v => .ok v h
      | none => rawOp P e o h
    else rawOp P e o h
  | _, _ => rawOp P e o h
def eqOpV (P : Program) (e : Operand → Value) (kind : EqKind) (neg : Bool) (o : Oper) (x y : Operand) (h : Heap) : R :=
  match eqv h kind (e x) (e y) with
  | some b => .ok (.bool (neg != b)) h
  | none => rawOp P e o h
def sliceOf (e : Operand → Value) (size : Nat) (v : Value) (lo hi mx : Option Operand) (h : Heap) : R :=
  match v with
  | .slice base len cap =>
    match bnd e cap cap mx with
    | none => .bad
    | some m =>
    match bnd e m len hi with
    | none => .bad
    | some r =>
    match bnd e r 0 lo with
    | none => .bad
    | some l =>
      if m < r then .bad else
      match base with
      | none => .ok (.slice none (r - l) (m - l)) h
      | some a =>
        match a.spot, mx with
        | none, _ => .ok (.slice (some (if m = l then a else ⟨a.block, a.off + l * size, none⟩)) (r - l) (m - l)) h
        | some _, some _ => .ok (.slice (some (if m = l then ⟨a.block, a.off, none⟩ else ⟨a.block, a.off + l * size, none⟩)) (r - l) (m - l)) h
        | some k, none =>
          if l = 0 then .ok (.slice (some a) r m) h
          else if m = l then .ok (.slice (some ⟨0, 0, some k⟩) 0 0) h
          else match h.get a.block with
            | .cells _ es => if es = size then .ok (.slice (some ⟨a.block, a.off + l * size, some k⟩) (r - l) (m - l)) h else .bad
            | _ => .bad
  | _ => .bad
def newCells (h : Heap) (size : Nat) (zero : List Value) (zeros : Bool) : Value → Option (Nat × List Value)
  | .slice none n _ => if zeros || n != 0 then none else some (0, [])
  | .slice (some a) n _ => if zeros then none else (cellsAt h a.block a.off (n * size)).map fun c => (n, c)
  | .string s => if zeros || size ≠ 1 then none else some (s.size, ofBytes s)
  | .int .i64 n => if zeros && decide (0 ≤ n) then some (n.toNat, repeatL zero n.toNat) else none
  | _ => none
def appendOf (size bytes : Nat) (zero : List Value) (zeros : Bool) (s x : Value) (h : Heap) : R :=
  if size = 0 then .bad else
  match s, newCells h size zero zeros x with
  | .slice base len cap, some (n, new) =>
    let need := len + n
    if need ≥ 1048576 ∨ bytes ≥ 1048576 then .bad else
    match base with
    | none =>
      if cap ≠ 0 ∨ len ≠ 0 then .bad
      else if need = 0 then .ok (.slice none 0 0) h
      else .ok (.slice (some ⟨h.n, 0, some 0⟩) need need) (h.push (.cells new size))
    | some a =>
      if need ≤ cap then
        match putAt h a.block (a.off + len * size) new with
        | some h' => .ok (.slice (some a) need cap) h'
        | none => .bad
      else
        match cellsAt h a.block a.off (len * size) with
        | none => .bad
        | some old =>
          match a.spot with
          | none => .ok (.slice (some ⟨h.n, 0, some 0⟩) need need) (h.push (.cells (old ++ new) size))
          | some _ =>
            match h.get a.block with
            | .cells _ es => if es = size ∧ new.all Value.oneCell' = true then .ok (.slice (some ⟨h.n, 0, some 0⟩) need need) ((h.set a.block .dead).push (.cells (old ++ new) size)) else .bad
            | _ => .bad
  | _, _ => .bad
def copyOf (size : Nat) (d s : Value) (h : Heap) : R :=
  match d with
  | .slice base len _ =>
    match s with
    | .slice (some b) n _ =>
      match cellsAt h b.block b.off (min n len * size) with
      | none => .bad
      | some c =>
        match base with
        | none => .ok (.int .i64 (min n len : Nat)) h
        | some a =>
          match putAt h a.block a.off c with
          | some h' => .ok (.int .i64 (min n len : Nat)) h'
          | none => .bad
    | .slice none n _ => if min n len = 0 then .ok (.int .i64 0) h else .bad
    | .string t =>
      if size ≠ 1 then .bad else
      match base with
      | none => .ok (.int .i64 (min t.size len : Nat)) h
      | some a =>
        match putAt h a.block a.off ((ofBytes t).take (min t.size len)) with
        | some h' => .ok (.int .i64 (min t.size len : Nat)) h'
        | none => .bad
    | _ => .bad
  | _ => .bad
def findAt (kind : TypeDesc) (k : Value) : List MapEntry → Nat → Option (Option (Nat × Value)) := Instr.findNow kind k
def plainKind : TypeDesc → Bool
  | .int _ | .string | .bool => true
  | _ => false
def mapAt (h : Heap) : Value → Option (Option (Nat × List MapEntry × Nat))
  | .map none => some none
  | .map (some r) =>
    match h.get r with
    | .map es clock => some (some (r, es, clock))
    | _ => none
  | _ => none
def bytesV (h : Heap) : Value → Option (List UInt8)
  | .string s => some s.data.toList
  | .slice none _ _ => some []
  | .slice (some a) n _ => (cellsAt h a.block a.off n).bind bytesOf
  | _ => none
def extName (n : String) : Option ExtK :=
  if n = "internal/bytealg.Compare" then some .compare
  else if n = "internal/bytealg.IndexByteString" then some .indexByte
  else none
def extFn (P : Program) (f : FuncId) : Option ExtK :=
  match P.funcs[f]? with
  | some fn => if fn.body.isNone && (Extern.findNext fn).isNone then extName fn.name else none
  | none => none
def extV (h : Heap) (k : ExtK) (args : List Value) : Option Value :=
  match k, args with
  | .compare, [a, b] => match bytesV h a, bytesV h b with
    | some x, some y => some (.int .i64 (Extern.BytealgCompare.cmp ⟨⟨x⟩⟩ ⟨⟨y⟩⟩))
    | _, _ => none
  | .indexByte, [b, .int .u8 c] => match bytesV h b with
    | some x => match (List.range (ByteArray.mk ⟨x⟩).size).find? fun i => (ByteArray.mk ⟨x⟩)[i]! == c.toNat.toUInt8 with
      | some i => some (.int .i64 i)
      | none => some (.int .i64 (-1))
    | none => none
  | _, _ => none
def xop (P : Program) (e : Operand → Value) (h : Heap) : AOp → R
  | .mov x => .ok (e x) h
  | .pick c a b =>
    match e c with
    | .bool t => .ok (if t then e a else e b) h
    | _ => .bad
  | .alloc _ cells => .ok (.pointer (some ⟨h.n, 0, none⟩)) (h.push (.cells cells 0))
  | .box _ x => .ok (.pointer (some ⟨h.n, 0, none⟩)) (h.push (.cells (e x).cells.toList 0))
  | .load agg x =>
    match e x with
    | .pointer (some a) =>
      match agg with
      | some n => match cellsAt h a.block a.off n with
        | some c => .ok (.agg ⟨c⟩) h
        | none => .bad
      | none => match cellsAt h a.block a.off 1 with
        | some (v :: _) => .ok v h
        | _ => .bad
    | _ => .bad
  | .store n a x =>
    match e a with
    | .pointer (some a) =>
      if (e x).cells.size = n then
        match putAt h a.block a.off (e x).cells.toList with
        | some h' => .ok undef h'
        | none => .bad
      else .bad
    | _ => .bad
  | .nilCheck x =>
    match e x with
    | .pointer none | .nilIface | .nilFunc => nilDeref P h
    | .pointer (some a) => .ok (.pointer (some a)) h
    | .func (.func f) a b => .ok (.func (.func f) a b) h
    | .iface t v => .ok (.iface t v) h
    | _ => .bad
  | .bin op o x y => binOpV P e op o x y h
  | .eq kind neg o x y => eqOpV P e kind neg o x y h
  | .conv k o x =>
    match e x with
    | .int _ n => .ok (.int k (k.wrap n)) h
    | _ => rawOp P e o h
  | .bytesToStr x =>
    match e x with
    | .slice none _ _ => .ok (.string .empty) h
    | .slice (some a) n _ =>
      match (cellsAt h a.block a.off n).bind bytesOf with
      | some s => .ok (.string ⟨⟨s⟩⟩) h
      | none => .bad
    | _ => .bad
  | .strToBytes _ x =>
    match e x with
    | .string s => .ok (.slice (some ⟨h.n, 0, some 1⟩) s.size s.size) (h.push (.cells (ofBytes s) 1))
    | _ => .bad
  | .fieldAddr off x =>
    match e x with
    | .pointer (some a) => .ok (.pointer (some (if off = 0 then a else ⟨a.block, a.off + off, none⟩))) h
    | _ => .bad
  | .indexArr len size x i =>
    match e x, idx len (e i) with
    | .pointer (some a), some j => .ok (.pointer (some ⟨a.block, a.off + j * size, none⟩)) h
    | _, _ => .bad
  | .indexSl size x i =>
    match e x with
    | .slice (some a) len _ =>
      match idx len (e i) with
      | some j => .ok (.pointer (some ⟨a.block, a.off + j * size, none⟩)) h
      | none => .bad
    | _ => .bad
  | .sliceArr n size x lo hi =>
    match e x with
    | .pointer (some a) => sliceOf e size (.slice (some ⟨a.block, a.off, none⟩) n n) lo hi none h
    | _ => .bad
  | .sliceSl size x lo hi mx => sliceOf e size (e x) lo hi mx h
  | .sliceStr x lo hi =>
    match e x with
    | .string s =>
      match bnd e s.size s.size hi with
      | none => .bad
      | some r => match bnd e r 0 lo with
        | none => .bad
        | some l => .ok (.string (s.extract l r)) h
    | _ => .bad
  | .build zero parts =>
    match fillL zero (parts.map fun p => (p.1, p.2.1, e p.2.2)) with
    | some c => .ok (.agg ⟨c⟩) h
    | none => .bad
  | .buildSlice _ zero len parts =>
    match fillL zero (parts.map fun p => (p.1, p.2.1, e p.2.2)) with
    | some c => .ok (.slice (some ⟨h.n, 0, none⟩) len len) (h.push (.cells c 0))
    | none => .bad
  | .field agg off x =>
    match e x with
    | .agg ⟨c⟩ =>
      match agg with
      | some n => if off + n ≤ c.length then .ok (.agg ⟨(c.drop off).take n⟩) h else .bad
      | none => if off < c.length then .ok (lget c off) h else .bad
    | _ => .bad
  | .index len size agg x i =>
    match e x, idx len (e i) with
    | .agg ⟨c⟩, some j =>
      match agg with
      | some n => if j * size + n ≤ c.length then .ok (.agg ⟨(c.drop (j * size)).take n⟩) h else .bad
      | none => if j * size < c.length then .ok (lget c (j * size)) h else .bad
    | _, _ => .bad
  | .extract i x =>
    match e x with
    | .tuple ⟨c⟩ => if i < c.length then .ok (lget c i) h else .bad
    | _ => .bad
  | .arrayAt n x =>
    match e x with
    | .slice (some a) len _ => if n ≤ len then .ok (.pointer (some ⟨a.block, a.off, none⟩)) h else .bad
    | _ => .bad
  | .mkIface t x => .ok (.iface t (e x)) h
  | .mkFunc fn first captured => .ok (.func fn ⟨first.map e⟩ ⟨captured.map e⟩) h
  | .assertTo t zero ok x =>
    match e x with
    | .iface u v =>
      if u = t then .ok (if ok then .tuple #[v, .bool true] else v) h
      else if ok then .ok (.tuple #[zero, .bool false]) h else .bad
    | .nilIface => if ok then .ok (.tuple #[zero, .bool false]) h else .bad
    | _ => .bad
  | .lenStr x =>
    match e x with
    | .string s => .ok (.int .i64 s.size) h
    | _ => .bad
  | .lenSl x =>
    match e x with
    | .slice _ n _ => .ok (.int .i64 n) h
    | _ => .bad
  | .lenMap x =>
    match mapAt h (e x) with
    | some none => .ok (.int .i64 0) h
    | some (some (_, es, _)) => .ok (.int .i64 es.length) h
    | none => .bad
  | .lenArr n => .ok (.int .i64 n) h
  | .cap x =>
    match e x with
    | .slice none _ n => .ok (.int .i64 n) h
    | .slice (some ⟨_, _, none⟩) _ n => .ok (.int .i64 n) h
    | _ => .bad
  | .makeSlice _ size bytes zero len cap =>
    match e len, e cap with
    | .int .i64 l, .int .i64 c =>
      if 0 ≤ l ∧ l ≤ c ∧ c < 1048576 ∧ bytes < 1048576 ∧ size ≠ 0 then
        .ok (.slice (some ⟨h.n, 0, none⟩) l.toNat c.toNat) (h.push (.cells (repeatL zero c.toNat) 0))
      else .bad
    | _, _ => .bad
  | .append _ size bytes zero zeros s x => appendOf size bytes zero zeros (e s) (e x) h
  | .copy size d s => copyOf size (e d) (e s) h
  | .raw o => rawOp P e o h
  | .panic x =>
    match e x with
    | .iface t v => .pan (.iface t v) h
    | _ => .bad
  | .mkMap => .ok (.map (some h.n)) (h.push (.map [] 0))
  | .lookup kind zero ok m k =>
    match mapAt h (e m) with
    | some none =>
      match findM P kind (e k) [] with
      | some _ => .ok (if ok then .tuple #[zero, .bool false] else zero) h
      | none => .bad
    | some (some (_, es, _)) =>
      match findM P kind (e k) es with
      | some (some (_, v)) => .ok (if ok then .tuple #[v, .bool true] else v) h
      | some none => .ok (if ok then .tuple #[zero, .bool false] else zero) h
      | none => .bad
    | none => .bad
  | .mapUpdate kind m k x =>
    match mapAt h (e m) with
    | some (some (r, es, clock)) =>
      match findM P kind (e k) es with
      | some (some (i, _)) =>
        match kind with
        | .slice _ => .bad
        | _ => .ok undef (h.set r (.map (es.modify i fun en => { en with key := e k, val := e x }) clock))
      | some none => .ok undef (h.set r (.map (es ++ [{ key := e k, val := e x, born := clock }]) (clock + 1)))
      | none => .bad
    | _ => .bad
  | .delete kind m k =>
    match mapAt h (e m) with
    | some none => .ok undef h
    | some (some (r, es, clock)) =>
      match Instr.findNow kind (e k) es 0 with
      | some (some (i, _)) => .ok undef (h.set r (.map (es.eraseIdx i) clock))
      | some none => .ok undef h
      | none => .bad
    | none => .bad
  | .rangeStr x =>
    match e x with
    | .string s => .ok (.pointer (some ⟨h.n, 0, none⟩)) (h.push (.strIter s 0))
    | _ => .bad
  | .rangeMap m =>
    match mapAt h (e m) with
    | some none => .ok (.pointer (some ⟨h.n, 0, none⟩)) (h.push (.mapIter none 0 [] 0))
    | some (some (r, _, clock)) => .ok (.pointer (some ⟨h.n, 0, none⟩)) (h.push (.mapIter (some r) clock [] clock))
    | none => .bad
  | .nextStr it =>
    match e it with
    | .pointer (some ⟨r, 0, none⟩) =>
      match h.get r with
      | .strIter s pos =>
        if pos < s.size then
          .ok (.tuple #[.bool true, .int .i64 pos, .int .i32 (Utf8.decode s pos).1]) (h.set r (.strIter s (pos + (Utf8.decode s pos).2)))
        else .ok (.tuple #[.bool false]) h
      | _ => .bad
    | _ => .bad
  | .entryMap it =>
    match e it with
    | .pointer (some ⟨r, 0, none⟩) =>
      match h.get r with
      | .mapIter (some m) _ seen stepped =>
        match seen.getLast?, h.get m with
        | some stamp, .map es clock =>
          if clock = stepped then
            match es.find? (fun en => en.born == stamp) with
            | some en => .ok (.tuple #[en.key, en.val]) h
            | none => .bad
          else .bad
        | _, _ => .bad
      | _ => .bad
    | _ => .bad
  | .ext k f args =>
    match e f with
    | .func (.func fid) ⟨[]⟩ ⟨[]⟩ =>
      if extFn P fid = some k then
        match extV h k (args.map e) with
        | some v => .ok v h
        | none => .bad
      else .bad
    | _ => .bad
  | .defer _ _ | .callV _ _ | .invoke _ _ _ | .recover | .nextMap _ => .bad
end Go.Vm

/- A small machine over an abstract heap: from the model's code to its own, and its runs. -/
namespace Go.Vm
def aggOf (P : Program) (t : TypeId) : Option (Option Nat) :=
  match P.info? t, P.underlying t with
  | some i, some (.struct _) | some i, some (.array _ _) => some (some i.size)
  | some _, some _ => some none
  | _, _ => none
def sizeT (P : Program) (t : TypeId) : Option Nat := (P.info? t).map (·.size)
def zeroT (P : Program) (t : TypeId) : Option Value :=
  match (P.info? t).bind (·.zero) with
  | some v => if ground v then some v else none
  | none => none
def zeroCellsT (P : Program) (t : TypeId) : Option (List Value) :=
  match P.info? t, zeroT P t with
  | some i, some v => if v.cells.size = i.size then some v.cells.toList else none
  | _, _ => none
def placesOf (P : Program) : List Field → Option (List (Nat × Nat))
  | [] => some []
  | f :: fs => match sizeT P f.type, placesOf P fs with
    | some s, some l => some ((f.offset, s) :: l)
    | _, _ => none
def partsAt (places : List (Nat × Nat)) : List (Nat × Operand) → Option (List (Nat × Nat × Operand))
  | [] => some []
  | (i, x) :: r => match places[i]?, partsAt places r with
    | some (o, s), some l => some ((o, s, x) :: l)
    | _, _ => none
def kindT (P : Program) (t : TypeId) : Option TypeDesc :=
  match P.underlying t with
  | some (.int k) => some (.int k)
  | some .string => some .string
  | some .bool => some .bool
  | _ => none
def kindM (P : Program) (t : TypeId) : Option TypeDesc :=
  match P.underlying t with
  | some (.struct _) => some (.slice t)
  | _ => kindT P t
def compBuiltin (P : Program) (b : Builtin) (c : Call) (o : Oper) : Option AOp :=
  match b, c.args.toList, c.argTypes.toList with
  | .len, [x], [t] =>
    match P.underlying t with
    | some (.array n _) => some (.lenArr n)
    | some (.pointer a) => match P.underlying a with
      | some (.array n _) => some (.lenArr n)
      | _ => none
    | some .string => some (.lenStr x)
    | some (.slice _) => some (.lenSl x)
    | some (.map _ _) => some (.lenMap x)
    | _ => none
  | .cap, [x], [t] =>
    match P.underlying t with
    | some (.slice _) => some (.cap x)
    | _ => none
  | .append, [s, x], [ts, tx] =>
    match P.underlying ts, P.underlying tx with
    | some (.slice el), some d =>
      match P.info? el, zeroCellsT P el with
      | some i, some z => match d with
        | .int _ => some (.append el i.size i.bytes z true s x)
        | .slice _ | .string => some (.append el i.size i.bytes z false s x)
        | _ => none
      | _, _ => none
    | _, _ => none
  | .copy, [d, s], t :: _ =>
    match P.underlying t with
    | some (.slice el) => (sizeT P el).map fun n => .copy n d s
    | _ => none
  | .delete, [m, k], t :: _ =>
    match P.underlying t with
    | some (.map kt _) => (kindT P kt).map fun kd => .delete kd m k
    | _ => none
  | .min, _, _ => some (.raw o)
  | .max, _, _ => some (.raw o)
  | .recover, [], _ => some .recover
  | _, _, _ => none
def isNeq : BinOp → Bool
  | .neq => true
  | _ => false
def slim (o : Oper) : Oper := { dst := none, op := o.op, type := o.type, pos := "", after := #[], guard := none }
def extOf (P : Program) : Operand → Option ExtK
  | .func f => extFn P f
  | _ => none
def compOp (P : Program) (o' : Oper) : Option AOp :=
  let o := slim o'
  match o.op with
  | .move x => some (.mov x)
  | .assign x => some (.mov x)
  | .pick c a b => some (.pick c a b)
  | .alloc el => (zeroCellsT P el).map fun z => .alloc el z
  | .box el x => some (.box el x)
  | .build t parts =>
    match P.underlying t, zeroT P t with
    | some (.struct fs), some z => match placesOf P fs.toList with
      | some pl => (partsAt pl parts.toList).map fun l => .build z.cells.toList l
      | none => none
    | some (.array n el), some z => match sizeT P el with
      | some s => (partsAt ((List.range (n + 1)).map fun i => (i * s, s)) parts.toList).map fun l => .build z.cells.toList l
      | none => none
    | _, _ => none
  | .buildSlice t len parts =>
    match P.underlying t with
    | some (.slice el) => match sizeT P el, zeroCellsT P el with
      | some s, some z => if s ≠ 0 ∧ len * s ≤ 16777216 then
          (partsAt ((List.range (len + 1)).map fun i => (i * s, s)) parts.toList).map fun l => .buildSlice el (repeatL z len) len l
        else none
      | _, _ => none
    | _ => none
  | .load t a => (aggOf P t).map fun g => .load g a
  | .store t a x => (sizeT P t).map fun n => .store n a x
  | .nilCheck x => some (.nilCheck x)
  | .binOp op t x y _ =>
    match op with
    | .eql | .neq =>
      match P.underlying t with
      | some (.pointer el) => match sizeT P el with
        | some (_ + 1) => some (.eq .ptr (isNeq op) o x y)
        | _ => some (.raw o)
      | some (.slice _) => some (.eq .slice (isNeq op) o x y)
      | some (.map _ _) => some (.eq .map (isNeq op) o x y)
      | some (.func _ _ _) => some (.eq .func (isNeq op) o x y)
      | some (.interface _) => some (.eq .iface (isNeq op) o x y)
      | _ => some (.bin op o x y)
    | _ => some (.bin op o x y)
  | .unOp _ _ _ => some (.raw o)
  | .convert src dst x =>
    match P.underlying src, P.underlying dst with
    | some _, some (.int k) => some (.conv k o x)
    | some (.slice el), some .string => match P.underlying el with
      | some (.int .u8) => some (.bytesToStr x)
      | _ => some (.raw o)
    | some .string, some (.slice el) => match P.underlying el, sizeT P el with
      | some (.int .u8), some 1 => some (.strToBytes el x)
      | _, _ => none
    | _, _ => some (.raw o)
  | .makeInterface t x =>
    match P.underlying t with
    | some (.interface _) => none
    | some _ => some (.mkIface t x)
    | none => none
  | .makeFunc fn first captured =>
    match fn with
    | .func _ => some (.mkFunc fn first.toList captured.toList)
    | _ => none
  | .makeMap _ none => some .mkMap
  | .makeSlice t l c =>
    match P.underlying t with
    | some (.slice el) => match P.info? el, zeroCellsT P el with
      | some i, some z => some (.makeSlice el i.size i.bytes z l c)
      | _, _ => none
    | _ => none
  | .slice t x lo hi mx =>
    match P.underlying t with
    | some (.array n el) => match sizeT P el, mx with
      | some s, none => if s = 0 then none else some (.sliceArr n s x lo hi)
      | _, _ => none
    | some (.pointer a) => match P.underlying a with
      | some (.array n el) => match sizeT P el, mx with
        | some s, none => if s = 0 then none else some (.sliceArr n s x lo hi)
        | _, _ => none
      | _ => none
    | some (.slice el) => match sizeT P el with
      | some s => if s = 0 ∨ (mx.isSome = true ∧ hi.isNone = true) then none else some (.sliceSl s x lo hi mx)
      | none => none
    | some .string => match mx with
      | none => some (.sliceStr x lo hi)
      | some _ => none
    | _ => none
  | .fieldAddr s x f =>
    match P.underlying s with
    | some (.struct fs) => match fs[f]? with
      | some fd => match sizeT P fd.type with
        | some n => if n = 0 then none else some (.fieldAddr fd.offset x)
        | none => none
      | none => none
    | _ => none
  | .field s x f =>
    match P.underlying s with
    | some (.struct fs) => match fs[f]? with
      | some fd => (aggOf P fd.type).map fun g => .field g fd.offset x
      | none => none
    | _ => none
  | .indexAddr t x i =>
    match P.underlying t with
    | some (.array n el) => match sizeT P el with
      | some s => if s = 0 then none else some (.indexArr n s x i)
      | none => none
    | some (.slice el) => match sizeT P el with
      | some s => if s = 0 then none else some (.indexSl s x i)
      | none => none
    | _ => none
  | .index t x i =>
    match P.underlying t with
    | some (.array n el) => match sizeT P el, aggOf P el with
      | some s, some g => some (.index n s g x i)
      | _, _ => none
    | some .string => some (.raw o)
    | _ => none
  | .lookup t m k ok =>
    match P.underlying t with
    | some (.map kt el) => match kindM P kt, zeroT P el with
      | some kd, some z => some (.lookup kd z ok m k)
      | _, _ => none
    | _ => none
  | .mapUpdate t m k x | .insert t m k x =>
    match P.underlying t with
    | some (.map kt _) => (kindM P kt).map fun kd => .mapUpdate kd m k x
    | _ => none
  | .range t x =>
    match P.underlying t with
    | some .string => some (.rangeStr x)
    | some (.map _ _) => some (.rangeMap x)
    | _ => none
  | .next it isString => some (if isString then .nextStr it else .nextMap it)
  | .entry it => some (.entryMap it)
  | .typeAssert x _ t ok =>
    match P.underlying t, zeroT P t with
    | some (.interface _), _ => none
    | some _, some z => some (.assertTo t z ok x)
    | _, _ => none
  | .extract x i => some (.extract i x)
  | .sliceToArrayPointer t x =>
    match P.underlying t with
    | some (.array n _) => some (.arrayAt n x)
    | _ => none
  | .panic x => some (.panic x)
  | .call c =>
    match c.callee with
    | .value f => match extOf P f with
      | some k => some (.ext k f c.args.toList)
      | none => some (.callV f c.args.toList)
    | .invoke r name => some (.invoke r name c.args.toList)
    | .builtin b => compBuiltin P b c o
  | .defer c =>
    match c.callee with
    | .value f => some (.defer f c.args.toList)
    | _ => none
  | _ => none
def okOpd : Operand → Bool
  | .const v => ground v
  | _ => true
def compOper (P : Program) (ops : Array Oper) (o : Oper) : Option AOper :=
  if o.op.operands.toList.all okOpd = false then none else
  match compOp P o with
  | none => none
  | some op =>
    match o.guard with
    | none => some { dst := o.dst, op, guard := none }
    | some (j, want) => match (ops[j]?).bind (·.dst) with
      | some t => some { dst := o.dst, op, guard := some (t, want) }
      | none => none
def compList {α β : Type} (f : α → Option β) : List α → Option (List β)
  | [] => some []
  | a :: l => match f a, compList f l with
    | some b, some m => some (b :: m)
    | _, _ => none
inductive Kind where
  | pure | read | write
  deriving DecidableEq
def AOp.kind : AOp → Kind
  | .load _ _ | .bytesToStr _ | .lookup _ _ _ _ _ | .lenMap _ | .eq _ _ _ _ _ | .entryMap _ | .ext _ _ _ => .read
  | .alloc _ _ | .box _ _ | .store _ _ _ | .strToBytes _ _ | .buildSlice _ _ _ _ | .makeSlice _ _ _ _ _ _ | .append _ _ _ _ _ _ _ | .copy _ _ _ | .panic _ | .defer _ _
  | .callV _ _ | .invoke _ _ _ | .recover | .mkMap | .mapUpdate _ _ _ _ | .delete _ _ _ | .rangeMap _ | .rangeStr _ | .nextMap _ | .nextStr _ => .write
  | _ => .pure
def AOp.opds : AOp → List Operand
  | .mov x | .box _ x | .load _ x | .nilCheck x | .bytesToStr x | .strToBytes _ x | .fieldAddr _ x | .field _ _ x | .extract _ x | .arrayAt _ x | .mkIface _ x | .assertTo _ _ _ x
  | .lenStr x | .lenSl x | .lenMap x | .cap x | .panic x | .rangeMap x | .rangeStr x | .nextMap x | .nextStr x | .entryMap x => [x]
  | .alloc _ _ | .lenArr _ | .recover | .mkMap => []
  | .pick c a b => [c, a, b]
  | .store _ a x | .indexArr _ _ a x | .indexSl _ a x | .index _ _ _ a x | .makeSlice _ _ _ _ a x | .append _ _ _ _ _ a x | .copy _ a x | .lookup _ _ _ a x | .delete _ a x => [a, x]
  | .bin _ o x y | .eq _ _ o x y => x :: y :: o.op.operands.toList
  | .conv _ o x => x :: o.op.operands.toList
  | .raw o => o.op.operands.toList
  | .sliceArr _ _ x lo hi | .sliceStr x lo hi => x :: (lo.toList ++ hi.toList)
  | .sliceSl _ x lo hi mx => x :: (lo.toList ++ hi.toList ++ mx.toList)
  | .build _ ps | .buildSlice _ _ _ ps => ps.map (·.2.2)
  | .mkFunc _ a b => a ++ b
  | .mapUpdate _ m k x => [m, k, x]
  | .defer f args | .callV f args | .invoke f _ args => f :: args
  | .ext _ f args => f :: args
def AOp.noSel : AOp → Bool
  | .bin _ o _ _ | .eq _ _ o _ _ | .conv _ o _ | .raw o => match o.op with
    | .select _ _ => false
    | _ => true
  | _ => true
def tmpsOf (l : List Operand) : List Nat := l.filterMap fun | .tmp t => some t | _ => none
def ancOf (an : Array Nat) (i j : Nat) : Bool := (an.getD j 0).testBit i
def dstD (ops : Array Oper) (i : Nat) : Option Nat := (ops[i]?).bind (·.dst)
def useD (P : Program) (ops : Array Oper) (i : Nat) : List Nat :=
  match ops[i]? with
  | some o => tmpsOf o.op.operands.toList ++ (match o.guard with
     | some (g, _) => (dstD ops g).toList
     | none => []) ++ (match compOp P o with
     | some a => tmpsOf a.opds
     | none => [])
  | none => []
def kindW (P : Program) (ops : Array Oper) (i : Nat) : Bool :=
  match (ops[i]?).bind (compOp P) with
  | some a => a.kind = .write
  | none => true
def isW (P : Program) (ops : Array Oper) (an : Array Nat) (i : Nat) : Bool :=
  kindW P ops i || match dstD ops i with
  | some d => (useD P ops i).contains d || (List.range ops.size).any fun j => j != i && ((useD P ops j).contains d || dstD ops j == some d) && !ancOf an i j
  | none => false
def triple (a : AOper) : Option Nat × AOp × Option (Nat × Bool) := (a.dst, a.op, a.guard)
inductive DTree where
  | nil
  | op (o : AOper) (rest : DTree)
  | fork (a b : DTree)
def forkL : List (Option DTree) → Option DTree
  | [] => none
  | x :: l => match l with
    | [] => x
    | _ :: _ => match x, forkL l with
      | some a, some b => some (.fork a b)
      | _, _ => none
def frontD (P : Program) (ops : Array Oper) (an : Array Nat) (done : List Nat) (i : Nat) : Option AOper :=
  match (ops[i]?).bind (compOper P ops), compList (fun j => (ops[j]?).bind (compOper P ops)) (if isW P ops an i then done.filter fun j => !isW P ops an j && !ancOf an j i else []) with
  | some a, some c =>
    if a.op.noSel && (List.range ops.size).all (fun j => done.contains j || j == i || !ancOf an j i) then
      some { a with chk := c.map triple, pan := done.all (fun j => ancOf an j i) && (isW P ops an i || (List.range ops.size).all fun j => done.contains j || j == i || ancOf an i j) }
    else none
  | _, _ => none
def readyD (ops : Array Oper) (done : List Nat) (i : Nat) : Bool :=
  !done.contains i && ((ops[i]?).map (·.after.all fun e => !Region.binds .any e || done.contains e.on)).getD false
def treeOp (o : Option AOper) (t : Option DTree) : Option DTree :=
  match o, t with
  | some a, some t => some (.op a t)
  | _, _ => none
def treeD (P : Program) (ops : Array Oper) (an : Array Nat) : Nat → List Nat → Option DTree
  | 0, done => if (List.range ops.size).all done.contains then some .nil else none
  | n + 1, done =>
    match ((List.range ops.size).filter (readyD ops done)).find? (fun i => !isW P ops an i) with
    | some i => treeOp (frontD P ops an done i) (treeD P ops an n (i :: done))
    | none => match (List.range ops.size).filter (readyD ops done) with
      | [] => if (List.range ops.size).all done.contains then some .nil else none
      | i :: l => if 3 < l.length then none else forkL ((i :: l).map fun i => treeOp (frontD P ops an done i) (treeD P ops an n (i :: done)))
def pathsD : DTree → List (List AOper)
  | .nil => [[]]
  | .op o t => (pathsD t).map (o :: ·)
  | .fork a b => pathsD a ++ pathsD b
def edgesOK (ops : Array Oper) : Bool := (List.range ops.size).all fun i => match ops[i]? with
  | some o => o.after.all fun e => !Region.binds .any e || decide (e.on < i)
  | none => false
def compM (P : Program) (ops : Array Oper) : Option (List (List AOper)) :=
  if edgesOK ops then (treeD P ops (Region.before ops) ops.size []).map pathsD else none
def drawnC : List (List AOper) → ACode
  | [l] => .regionD l
  | ls => .regionM ls
def compG (P : Program) (ops : Array Oper) : Option (List AOper × List GOp) :=
  let an := Region.before ops
  let rs := (List.range ops.size).filter fun i => !isW P ops an i
  let ws := (List.range ops.size).filter fun i => isW P ops an i
  let al := ws.filter fun i => match (ops[i]?).map (fun o => (o.op, o.guard)) with
    | some (.alloc _, none) => true
    | _ => false
  if edgesOK ops && (List.range ops.size).all (fun i => match (ops[i]?).bind (compOper P ops) with
      | some a => a.op.noSel
      | none => false) && rs.all (fun i => (List.range ops.size).all fun j => !ancOf an j i || (rs.contains j && decide (j < i))) then
    match compList (fun i => (ops[i]?).bind (compOper P ops)) rs, compList (fun i => ((ops[i]?).bind (compOper P ops)).map fun a => ({ i, op := a, wait := ws.filter fun j => ancOf an j i, res := if al.contains i then some (al.takeWhile (· != i)).length else none } : GOp)) ws with
    | some r, some w => some (r, w)
    | _, _ => none
  else none
def compR (P : Program) (ops : Array Oper) : Option ACode :=
  match compM P ops with
  | some ls => some (drawnC ls)
  | none => (compG P ops).map fun x => .regionG x.1 x.2
def comp (P : Program) : Code → Option ACode
  | .skip => some .skip
  | .region _ ops false => (compList (fun i => (ops[i]?).bind (compOper P ops)) (List.range ops.size)).map .region
  | .region _ ops true => compR P ops
  | .seq a b => match comp P a, comp P b with
    | some x, some y => some (.seq x y)
    | _, _ => none
  | .cond c t e => match okOpd c, comp P t, comp P e with
    | true, some x, some y => some (.cond c x y)
    | _, _, _ => none
  | .block id b => (comp P b).map (.block id)
  | .loop b => (comp P b).map .loop
  | .exit id => some (.exit id)
  | .ret => some .ret
  | .rangeFunc f ps as b => if okOpd f then some (.rangeFunc f ps.toList as b) else none
  | .scope b => (comp P b).map .scope
  | .label _ => some .skip
  | .goto _ => some .stuck
  | _ => none
def noDefer : Code → Bool
  | .region _ ops _ => ops.all fun o => match o.op with
    | .defer _ => false
    | _ => true
  | .seq a b => noDefer a && noDefer b
  | .cond _ a b => noDefer a && noDefer b
  | .block _ b => noDefer b
  | .loop b => noDefer b
  | .scope b => noDefer b
  | _ => true
inductive CO where
  | ret (v : Value) (h : Heap)
  | pan (chain : List PanicEntry) (h : Heap)
  | bad
structure AFunc where
  ntmps : Nat
  results : List (Nat × Option (Option Nat))
  body : ACode
  prim : Option (List Value → Heap → List CO) := none
  deriving Inhabited
def compResults (P : Program) : List ResultVar → Option (List (Nat × Option (Option Nat)))
  | [] => some []
  | .tmp t :: l => (compResults P l).map ((t, none) :: ·)
  | .cell a t :: l => match aggOf P t, compResults P l with
    | some g, some r => some ((a, some g) :: r)
    | _, _ => none
def compFunc (P : Program) (fn : Func) : Option AFunc :=
  match fn.body with
  | none => none
  | some c =>
    if fn.name == "runtime.NumGoroutine" then none else
    match comp P c, compResults P fn.results.toList with
    | some b, some r => some { ntmps := fn.ntmps, results := r, body := b }
    | _, _ => none
structure St where
  ts : List Value
  ds : List Deferred
  h : Heap
  rd : Option Nat := none
  deriving Inhabited
inductive Out where
  | mk (e : Exit) (s : St)
  | bad
inductive Tgt where
  | fn (f : FuncId)
  | yield (l : Nat)
abbrev Caller := Tgt → List Value → Heap → List CO
def putT (ts : List Value) : Option Nat → Value → List Value
  | some d, v => lset ts d v
  | none, _ => ts
def wantedT (ts : List Value) : Option (Nat × Bool) → Bool
  | none => true
  | some (t, want) => match lget ts t with
    | .bool b => b == want
    | _ => false
def target (v : Value) (args : List Value) : Option (Option (Tgt × List Value)) :=
  match v with
  | .func (.func f) ⟨first⟩ ⟨captured⟩ => some (some (.fn f, first ++ args ++ captured))
  | .func (.yield l) ⟨[]⟩ ⟨[]⟩ => some (some (.yield l, args))
  | .nilFunc => some none
  | _ => none
def methodOf (P : Program) (h : Heap) (t : TypeId) (v : Value) (name : String) : Option (FuncId × Value) :=
  match P.info? t with
  | none => none
  | some i => match i.methods.find? (·.name == name) with
    | none => none
    | some m =>
      if m.path.isEmpty then
        match m.func with
        | some (f, pr) => match P.underlying t, pr with
          | some (.pointer _), true => some (f, v)
          | some (.pointer el), false => match v, aggOf P el with
            | .pointer (some a), some (some n) => (cellsAt h a.block a.off n).map fun c => (f, .agg ⟨c⟩)
            | .pointer (some a), some none => match cellsAt h a.block a.off 1 with
              | some (u :: _) => some (f, u)
              | _ => none
            | _, _ => none
          | some _, false => some (f, v)
          | _, _ => none
        | none => none
      else none
def nextAt (h : Heap) : Value → Option (List (Value × Heap))
  | .pointer (some ⟨r, 0, none⟩) =>
    match h.get r with
    | .mapIter none _ _ _ => some [(.tuple #[.bool false], h)]
    | .mapIter (some m) since seen last =>
      match h.get m with
      | .map es clock =>
        if !seen.isEmpty && !es.isEmpty && es.all (fun en => decide (en.born ≥ last)) then none else
        let left := es.filter fun en => !seen.contains en.born
        let old := left.filter fun en => decide (en.born < since)
        let new := left.filter fun en => decide (en.born ≥ since)
        some ((if old.isEmpty then [(.tuple #[.bool false], h)] else []) ++
          (old ++ new).map fun en => (.tuple #[.bool true, en.key, en.val], h.set r (.mapIter (some m) since (seen ++ [en.born]) clock)))
      | _ => none
    | _ => none
  | _ => none
def xo (P : Program) (call : Caller) (ts : List Value) (h : Heap) (op : AOp) : List CO :=
  match op with
  | .callV f args =>
    match target (eval ts f) (args.map (eval ts)) with
    | some (some (t, vs)) => call t vs h
    | some none => match nilDeref P h with
      | .pan v h' => [.pan [{ v, recovered := false }] h']
      | _ => [.bad]
    | none => [.bad]
  | .invoke r name args =>
    match eval ts r with
    | .iface t v => match methodOf P h t v name with
      | some (f, recv) => call (.fn f) (recv :: args.map (eval ts)) h
      | none => [.bad]
    | _ => [.bad]
  | .nextMap it =>
    match nextAt h (eval ts it) with
    | some l => l.map fun p => .ret p.1 p.2
    | none => [.bad]
  | _ =>
    match xop P (eval ts) h op with
    | .ok v h' => [.ret v h']
    | .pan v h' => [.pan [{ v, recovered := false }] h']
    | .bad => [.bad]
def deferOf (ts : List Value) : AOp → Option Deferred
  | .defer f args =>
    match eval ts f with
    | .func (.func f) ⟨first⟩ captured => some { target := .fn (.func f) captured, args := ⟨first ++ args.map (eval ts)⟩ }
    | _ => none
  | _ => none
def xops (P : Program) (call : Caller) : List AOper → St → List Out
  | [], s => [.mk .normal s]
  | o :: rest, s =>
    if wantedT s.ts o.guard then
      match o.op with
      | .defer f args => match deferOf s.ts (.defer f args) with
        | some d => xops P call rest { s with ds := d :: s.ds, ts := putT s.ts o.dst undef }
        | none => [.bad]
      | _ =>
        (xo P call s.ts s.h o.op).flatMap fun
          | .ret v h => xops P call rest { s with ts := putT s.ts o.dst v, h := h }
          | .pan chain h => [.mk (.panic chain) { s with h := h }]
          | .bad => [.bad]
    else xops P call rest { s with ts := putT s.ts o.dst undef }
def stable (P : Program) (ts : List Value) (h : Heap) (x : Option Nat × AOp × Option (Nat × Bool)) : Bool :=
  if wantedT ts x.2.2 then
    match xop P (eval ts) h x.2.1 with
    | .ok v _ => match x.1 with
      | some d => veq v (lget ts d)
      | none => true
    | _ => false
  else match x.1 with
    | some d => veq undef (lget ts d)
    | none => true
def xopsD (P : Program) (call : Caller) : List AOper → St → List Out
  | [], s => [.mk .normal s]
  | o :: rest, s =>
    if wantedT s.ts o.guard then
      (xo P call s.ts s.h o.op).flatMap fun
        | .ret v h => if o.chk.all (stable P (putT s.ts o.dst v) h) then xopsD P call rest { s with ts := putT s.ts o.dst v, h := h } else [.bad]
        | .pan chain h => if o.pan then [.mk (.panic chain) { s with h := h }] else [.bad]
        | .bad => [.bad]
    else if o.chk.all (stable P (putT s.ts o.dst undef) s.h) then xopsD P call rest { s with ts := putT s.ts o.dst undef } else [.bad]
def eeq : List MapEntry → List MapEntry → Bool
  | [], [] => true
  | a :: l, b :: m => veq a.key b.key && veq a.val b.val && (a.born == b.born) && eeq l m
  | _, _ => false
def oeq : AObj → AObj → Bool
  | .dead, .dead => true
  | .cells c e, .cells d f => veqL c d && e == f
  | .map a c, .map b d => eeq a b && c == d
  | .ro c, .ro d => veqL c d
  | .defs a, .defs b => a == b
  | _, _ => false
def teq : Tr → Tr → Bool
  | .nil, .nil => true
  | .node v l r, .node w m s => oeq v w && teq l m && teq r s
  | _, _ => false
mutual
def namesV (r : Nat) : Value → Bool
  | .pointer (some a) => a.block == r
  | .slice (some a) _ _ => a.block == r
  | .map (some m) => m == r
  | .func (.yield l) a b => l == r || namesA r a || namesA r b
  | .func _ a b => namesA r a || namesA r b
  | .iface _ v => namesV r v
  | .agg a => namesA r a
  | .tuple a => namesA r a
  | _ => false
def namesA (r : Nat) : Array Value → Bool
  | ⟨l⟩ => namesL r l
def namesL (r : Nat) : List Value → Bool
  | [] => false
  | v :: l => namesV r v || namesL r l
end
def namesO (r : Nat) : AObj → Bool
  | .cells c _ | .ro c => namesL r c
  | .map es _ => es.any fun e => namesV r e.key || namesV r e.val
  | .mapIter m _ _ _ => m == some r
  | .loop _ _ ts _ _ _ => namesL r ts
  | _ => false
def namesT (r : Nat) : Tr → Bool
  | .nil => false
  | .node o a b => namesO r o || namesT r a || namesT r b
mutual
def blocksV : Value → List Nat
  | .pointer (some a) => [a.block]
  | .slice (some a) _ _ => [a.block]
  | .map (some m) => [m]
  | .func (.yield l) a b => l :: (blocksA a ++ blocksA b)
  | .func _ a b => blocksA a ++ blocksA b
  | .iface _ v => blocksV v
  | .agg a => blocksA a
  | .tuple a => blocksA a
  | _ => []
def blocksA : Array Value → List Nat
  | ⟨l⟩ => blocksL l
def blocksL : List Value → List Nat
  | [] => []
  | v :: l => blocksV v ++ blocksL l
end
def blocksO : AObj → List Nat
  | .cells c _ | .ro c => blocksL c
  | .map es _ => es.flatMap fun e => blocksV e.key ++ blocksV e.val
  | .mapIter (some m) _ _ _ => [m]
  | .loop _ _ ts _ _ _ => blocksL ts
  | _ => []
def liveG (h : Heap) : Nat → List Nat → List Nat → List Nat
  | 0, _, seen => seen
  | _ + 1, [], seen => seen
  | f + 1, r :: todo, seen => if seen.contains r then liveG h f todo seen else liveG h f (blocksO (h.get r) ++ todo) (r :: seen)
def gcH (h : Heap) (l : List Nat) : Heap := { n := h.n, t := l.foldl (fun t i => t.set i (h.get i)) .nil }
def stEq (s s' : St) : Bool := veqL s.ts s'.ts && s.ds.isEmpty && s'.ds.isEmpty && s.h.n == s'.h.n && teq s.h.t s'.h.t && s.rd == s'.rd
def writeG (P : Program) (call : Caller) (n0 : Nat) (rd : List AOper) (s : St) (g : GOp) : Option St :=
  match g.res, g.op.op, g.op.guard with
  | some k, .alloc _ z, none =>
    if decide (n0 + k < s.h.n) && !namesL (n0 + k) s.ts && !namesT (n0 + k) s.h.t && s.ds.isEmpty && s.rd != some (n0 + k)
        && rd.all (fun o => stable P (putT s.ts g.op.dst (.pointer (some ⟨n0 + k, 0, none⟩))) (s.h.set (n0 + k) (.cells z 0)) (o.dst, o.op, o.guard)) then
      some { s with ts := putT s.ts g.op.dst (.pointer (some ⟨n0 + k, 0, none⟩)), h := s.h.set (n0 + k) (.cells z 0) }
    else none
  | none, _, _ =>
    if wantedT s.ts g.op.guard then
      match xo P call s.ts s.h g.op.op with
      | [.ret v h] => if rd.all (fun o => stable P (putT s.ts g.op.dst v) h (o.dst, o.op, o.guard)) then some { s with ts := putT s.ts g.op.dst v, h := h } else none
      | _ => none
    else if rd.all (fun o => stable P (putT s.ts g.op.dst undef) s.h (o.dst, o.op, o.guard)) then some { s with ts := putT s.ts g.op.dst undef } else none
  | _, _, _ => none
def insN (i : Nat) : List Nat → List Nat
  | [] => [i]
  | j :: l => if i < j then i :: j :: l else j :: insN i l
abbrev LevG := List (List Nat × St)
def mergeG (acc : LevG) (x : List Nat × St) : Option LevG :=
  match acc.find? (fun p => p.1 == x.1) with
  | some p => if stEq p.2 x.2 then some acc else none
  | none => some (x :: acc)
def readyG (l : List Nat) (g : GOp) : Bool := !l.contains g.i && g.wait.all l.contains
def succG (P : Program) (call : Caller) (n0 : Nat) (rd : List AOper) (p : List Nat × St) : List GOp → LevG → Option LevG
  | [], acc => some acc
  | g :: gs, acc =>
    if readyG p.1 g then
      match writeG P call n0 rd p.2 g with
      | some s => match mergeG acc (insN g.i p.1, s) with
        | some acc' => succG P call n0 rd p gs acc'
        | none => none
      | none => none
    else succG P call n0 rd p gs acc
def nextG (P : Program) (call : Caller) (n0 : Nat) (rd : List AOper) (wr : List GOp) : LevG → LevG → Option LevG
  | [], acc => some acc
  | p :: L, acc => match succG P call n0 rd p wr acc with
    | some acc' => nextG P call n0 rd wr L acc'
    | none => none
def levelsG (P : Program) (call : Caller) (n0 : Nat) (rd : List AOper) (wr : List GOp) : Nat → LevG → Option LevG
  | 0, L => some L
  | n + 1, L => match nextG P call n0 rd wr L [] with
    | some L' => levelsG P call n0 rd wr n L'
    | none => none
def readsG (P : Program) : List AOper → St → Option St
  | [], s => some s
  | o :: l, s =>
    if wantedT s.ts o.guard then
      match xop P (eval s.ts) s.h o.op with
      | .ok v _ => readsG P l { s with ts := putT s.ts o.dst v }
      | _ => none
    else readsG P l { s with ts := putT s.ts o.dst undef }
def asideH : Nat → Heap → Heap
  | 0, h => h
  | k + 1, h => asideH k (h.push .dead)
def countG (wr : List GOp) : Nat := (wr.filter fun g => g.res.isSome).length
def runG (P : Program) (call : Caller) (rd : List AOper) (wr : List GOp) (s : St) : Option St :=
  match readsG P rd { s with h := asideH (countG wr) (gcH s.h (liveG s.h 4000 (blocksL s.ts) [])) } with
  | some s1 => match levelsG P call s.h.n rd wr wr.length [([], s1)] with
    | some [(_, s2)] => some s2
    | _ => none
  | none => none
def outG (P : Program) (call : Caller) (rd : List AOper) (wr : List GOp) (s : St) : List Out :=
  match runG P call rd wr s with
  | some s' => [.mk .normal s']
  | none => [.bad]
def lapH (s : St) : Heap := match s.rd with
  | some _ => s.h
  | none => s.h.push (.defs false)
def lapS (s : St) : St := match s.rd with
  | some _ => s
  | none => { s with ds := { target := .collected s.h.n, args := #[] } :: s.ds }
def lapOK (s : St) : Bool := match s.rd with
  | some l => match s.h.get l with
    | .loop _ _ _ _ _ _ => true
    | _ => false
  | none => true
def lapOut (l : Nat) (s : St) : CO → List Out
  | .ret _ h => match h.get l with
    | .loop st pend ts ps as b =>
      if st = .busy then [.bad] else match pend with
      | none => [.mk .normal { s with h := (h.set l (.loop .exhausted pend ts ps as b)).set l .dead }]
      | some .ret => [.mk .ret { s with h := (h.set l (.loop .exhausted pend ts ps as b)).set l .dead }]
      | some (.exit id) => [.mk (.exit id) { s with h := (h.set l (.loop .exhausted pend ts ps as b)).set l .dead }]
      | some _ => [.bad]
    | _ => [.bad]
  | .pan chain h => [.mk (.panic chain) { s with h := h }]
  | .bad => [.bad]
def loopGo (body : St → List Out) : Nat → St → List Out
  | 0, _ => [.bad]
  | n + 1, s => (body s).flatMap fun
    | .mk .normal s' => loopGo body n s'
    | o => [o]
def xc (P : Program) (call : Caller) (L : Nat) : ACode → St → List Out
  | .skip, s => [.mk .normal s]
  | .seq a b, s => (xc P call L a s).flatMap fun
    | .mk .normal s' => xc P call L b s'
    | o => [o]
  | .cond c t e, s => match eval s.ts c with
    | .bool true => xc P call L t s
    | .bool false => xc P call L e s
    | _ => [.bad]
  | .block id b, s => (xc P call L b s).map fun
    | .mk (.exit j) s' => if j = id then .mk .normal s' else .mk (.exit j) s'
    | o => o
  | .loop b, s => loopGo (xc P call L b) L s
  | .exit id, s => [.mk (.exit id) s]
  | .ret, s => [.mk .ret s]
  | .region ops, s => xops P call ops s
  | .regionD ops, s => xopsD P call ops s
  | .regionM ls, s => ls.flatMap fun ops => xopsD P call ops s
  | .regionG rd wr, s => outG P call rd wr s
  | .scope b, s => xc P call L b s
  | .stuck, _ => [.bad]
  | .rangeFunc f ps as b, s => if lapOK s = false then [.bad] else match eval s.ts f with
    | .func (.func fid) ⟨first⟩ ⟨captured⟩ =>
      (call (.fn fid) (first ++ [.func (.yield (lapH s).n) #[] #[]] ++ captured) ((lapH s).push (.loop .ready none s.ts ps as b))).flatMap (lapOut (lapH s).n (lapS s))
    | _ => [.bad]
structure StS where
  s : St
  up : FrameMode
inductive OutS where
  | mk (e : Exit) (s : StS)
  | bad
def recovered : FrameMode → Value × FrameMode
  | .panicking ({ v, recovered := false, goexit := false } :: older) => (v, .panicking ({ v, recovered := true } :: older))
  | u => (.nilIface, u)
def xopsS (P : Program) (call : Caller) : List AOper → StS → List OutS
  | [], s => [.mk .normal s]
  | o :: rest, s =>
    if wantedT s.s.ts o.guard then
      match o.op with
      | .recover => xopsS P call rest { s := { s.s with ts := putT s.s.ts o.dst (recovered s.up).1 }, up := (recovered s.up).2 }
      | .defer _ _ => [.bad]
      | _ =>
        (xo P call s.s.ts s.s.h o.op).flatMap fun
          | .ret v h => xopsS P call rest { s with s := { s.s with ts := putT s.s.ts o.dst v, h := h } }
          | .pan chain h => [.mk (.panic chain) { s with s := { s.s with h := h } }]
          | .bad => [.bad]
    else xopsS P call rest { s with s := { s.s with ts := putT s.s.ts o.dst undef } }
def liftS (up : FrameMode) : Out → OutS
  | .mk e s => .mk e { s, up }
  | .bad => .bad
def xcS (P : Program) (call : Caller) : ACode → StS → List OutS
  | .skip, s => [.mk .normal s]
  | .ret, s => [.mk .ret s]
  | .seq a b, s => (xcS P call a s).flatMap fun
    | .mk .normal s' => xcS P call b s'
    | o => [o]
  | .cond c t e, s => match eval s.s.ts c with
    | .bool true => xcS P call t s
    | .bool false => xcS P call e s
    | _ => [.bad]
  | .region ops, s => xopsS P call ops s
  | .regionD ops, s => (xopsD P call ops s.s).map (liftS s.up)
  | .regionM ls, s => (ls.flatMap fun ops => xopsD P call ops s.s).map (liftS s.up)
  | .regionG rd wr, s => (outG P call rd wr s.s).map (liftS s.up)
  | _, _ => [.bad]
def resVals (h : Heap) (ts : List Value) : List (Nat × Option (Option Nat)) → Option (List Value)
  | [] => some []
  | (t, none) :: r => (resVals h ts r).map (lget ts t :: ·)
  | (t, some g) :: r =>
    match lget ts t, resVals h ts r with
    | .pointer (some a), some l =>
      match g with
      | some n => (cellsAt h a.block a.off n).map fun c => .agg ⟨c⟩ :: l
      | none => match cellsAt h a.block a.off 1 with
        | some (v :: _) => some (v :: l)
        | _ => none
    | _, _ => none
def resOf (h : Heap) (ts : List Value) (rs : List (Nat × Option (Option Nat))) : Option Value :=
  match resVals h ts rs with
  | some [v] => some v
  | some l => some (.tuple ⟨l⟩)
  | none => none
def pad (args : List Value) (n : Nat) : List Value := args ++ List.replicate (n - args.length) undef
inductive DO where
  | ret (u : FrameMode) (h : Heap)
  | pan (chain : List PanicEntry) (u : FrameMode) (h : Heap)
  | bad
abbrev Table := FuncId → Option AFunc
def noY (call : Caller) : Caller
  | .yield _, _, _ => [.bad]
  | .fn f, args, h => call (.fn f) args h
def xdefer (P : Program) (T : Table) (call : Caller) (f : FuncId) (args : List Value) (u : FrameMode) (h : Heap) : List DO :=
  match T f with
  | none => [.bad]
  | some af =>
    if af.prim.isSome = true then [.bad] else
    (xcS P (noY call) af.body { s := { ts := pad args af.ntmps, ds := [], h }, up := u }).map fun
      | .mk .normal s | .mk .ret s => match s.s.ds, resOf s.s.h s.s.ts af.results with
        | [], some _ => .ret s.up s.s.h
        | _, _ => .bad
      | .mk (.panic chain) s => match s.s.ds with
        | [] => .pan chain s.up s.s.h
        | _ => .bad
      | _ => .bad
def leave (P : Program) (T : Table) (call : Caller) (rs : List (Nat × Option (Option Nat))) (ts : List Value) : List Deferred → FrameMode → Heap → List CO
  | [], .returning, h => match resOf h ts rs with
    | some v => [.ret v h]
    | none => [.bad]
  | [], .panicking chain, h => [.pan chain h]
  | [], .run, _ => [.bad]
  | d :: ds, u, h =>
    match u, d.target with
    | .run, _ => [.bad]
    | _, .fn (.func f) ⟨captured⟩ =>
      (xdefer P T call f (d.args.toList ++ captured) u h).flatMap fun
        | .ret u' h' => leave P T call rs ts ds (settle u') h'
        | .pan chain u' h' => leave P T call rs ts ds (raised u' chain) h'
        | .bad => [.bad]
    | _, .collected r => match h.get r with
      | .defs false => leave P T call rs ts ds u (h.set r (.defs true))
      | _ => [.bad]
    | _, _ => [.bad]
def xfun (P : Program) (T : Table) (call : Caller) (L : Nat) (af : AFunc) (args : List Value) (h : Heap) : List CO :=
  (xc P call L af.body { ts := pad args af.ntmps, ds := [], h }).flatMap fun
    | .mk .normal s | .mk .ret s => leave P T call af.results s.ts s.ds .returning s.h
    | .mk (.panic chain) s => leave P T call af.results s.ts s.ds (.panicking chain) s.h
    | _ => [.bad]
def endR (l : Nat) (jump : Option Code) (h : Heap) : CO :=
  match h.get l with
  | .loop _ _ ts ps as b => .ret (.bool jump.isNone) (h.set l (.loop (if jump.isNone then .ready else .done) jump ts ps as b))
  | _ => .bad
def roundOut (l : Nat) : Out → CO
  | .mk .normal s => endR l none s.h
  | .mk .ret s => endR l (some .ret) s.h
  | .mk (.exit id) s => endR l (some (.exit id)) s.h
  | _ => .bad
def bodyOut (P : Program) (call : Caller) (L l : Nat) (b' : ACode) : Out → List CO
  | .mk .normal s => match s.h.get l with
    | .loop .ready pend ts ps as b => (xc P call L b' { s with h := s.h.set l (.loop .busy pend ts ps as b) }).map (roundOut l)
    | _ => [.bad]
  | _ => [.bad]
def putAll (ts : List Value) (ps : List Nat) (args : List Value) : List Value := (ps.zip args).foldl (fun ts p => lset ts p.1 p.2) ts
def xround (P : Program) (call : Caller) (L l : Nat) (args : List Value) (h : Heap) : List CO :=
  match h.get l with
  | .loop _ _ ts ps as b =>
    if args.length = ps.length ∧ noDefer as = true ∧ noDefer b = true then
      match comp P as, comp P b with
      | some as', some b' => (xc P call L as' { ts := putAll ts ps args, ds := [], h, rd := some l }).flatMap (bodyOut P call L l b')
      | _, _ => [.bad]
    else [.bad]
  | _ => [.bad]
def xcall (P : Program) (T : Table) (L : Nat) : Nat → Caller
  | 0, _, _, _ => [.bad]
  | n + 1, .fn f, args, h =>
    match T f with
    | some af => match af.prim with
      | some p => p args h
      | none => xfun P T (xcall P T L n) L af args h
    | none => [.bad]
  | n + 1, .yield l, args, h => xround P (xcall P T L n) L l args h
end Go.Vm

/- A small machine over an abstract heap: how an abstract heap stands for a world. -/
namespace Go.Vm
open Go.RowKit
structure GB where
  b : Nat
  sh : Nat
  es : Nat
  tot : Nat
abbrev Gh := List (Option GB)
def AR (g : Gh) (a a' : Addr) : Prop := a.block < g.length ∧ ∀ x, g[a.block]? = some (some x) → a' = ⟨x.b, x.sh + a.off, none⟩
def BR (g : Gh) (r r' : Nat) : Prop := r < g.length ∧ ∀ x, g[r]? = some (some x) → r' = x.b
mutual
inductive VR (g : Gh) : Value → Value → Prop
  | gr {v : Value} : ground v = true → VR g v v
  | ptr {a a' : Addr} : AR g a a' → VR g (.pointer (some a)) (.pointer (some a'))
  | sl {a a' : Addr} {n c : Nat} : a.spot = none → AR g a a' → VR g (.slice (some a) n c) (.slice (some a') n c)
  | osl {a a' : Addr} {n c c' k : Nat} : a.spot = some k → AR g a a' → c ≤ c' → (∀ x, g[a.block]? = some (some x) → x.sh + a.off + c' * x.es ≤ x.tot) → VR g (.slice (some a) n c) (.slice (some a') n c')
  | map {r r' : Nat} : BR g r r' → VR g (.map (some r)) (.map (some r'))
  | yield {l l' : Nat} : BR g l l' → VR g (.func (.yield l) ⟨[]⟩ ⟨[]⟩) (.func (.yield l') ⟨[]⟩ ⟨[]⟩)
  | func {f : FuncId} {a a' b b' : List Value} : VRL g a a' → VRL g b b' → VR g (.func (.func f) ⟨a⟩ ⟨b⟩) (.func (.func f) ⟨a'⟩ ⟨b'⟩)
  | iface {t : TypeId} {v v' : Value} : VR g v v' → VR g (.iface t v) (.iface t v')
  | agg {a a' : List Value} : VRL g a a' → VR g (.agg ⟨a⟩) (.agg ⟨a'⟩)
  | tuple {a a' : List Value} : VRL g a a' → VR g (.tuple ⟨a⟩) (.tuple ⟨a'⟩)
inductive VRL (g : Gh) : List Value → List Value → Prop
  | nil : VRL g [] []
  | cons {v v' : Value} {l l' : List Value} : VR g v v' → VRL g l l' → VRL g (v :: l) (v' :: l')
end
theorem VRL.of_ground {g : Gh} : ∀ {l : List Value}, groundL l = true → VRL g l l
  | [], _ => .nil
  | v :: l, h => by
    simp only [groundL, Bool.and_eq_true] at h
    exact .cons (.gr h.1) (VRL.of_ground h.2)
mutual
theorem VR.eq_ground {g : Gh} {v v' : Value} (h : VR g v v') (hg : ground v = true) : v' = v := by
  cases h with
  | gr _ => rfl
  | ptr _ => simp [ground] at hg
  | sl _ _ => simp [ground] at hg
  | osl _ _ _ _ => simp [ground] at hg
  | map _ => simp [ground] at hg
  | yield _ => simp [ground] at hg
  | func h1 h2 =>
    simp only [ground, groundA, Bool.and_eq_true] at hg
    rw [VRL.eq_ground h1 hg.1, VRL.eq_ground h2 hg.2]
  | iface h1 => rw [VR.eq_ground h1 (by simpa [ground] using hg)]
  | agg h1 => rw [VRL.eq_ground h1 (by simpa [ground, groundA] using hg)]
  | tuple h1 => rw [VRL.eq_ground h1 (by simpa [ground, groundA] using hg)]
theorem VRL.eq_ground {g : Gh} {l l' : List Value} (h : VRL g l l') (hg : groundL l = true) : l' = l := by
  cases h with
  | nil => rfl
  | cons h1 h2 =>
    simp only [groundL, Bool.and_eq_true] at hg
    rw [VR.eq_ground h1 hg.1, VRL.eq_ground h2 hg.2]
end
def Le (g g' : Gh) : Prop := g.length ≤ g'.length ∧ ∀ i, i < g.length → ∀ x, g'[i]? = some (some x) → g[i]? = some (some x)
theorem Le.refl (g : Gh) : Le g g := ⟨Nat.le_refl _, fun _ _ _ h => h⟩
theorem Le.trans {a b c : Gh} (h : Le a b) (k : Le b c) : Le a c :=
  ⟨Nat.le_trans h.1 k.1, fun i hi x hx => h.2 i hi x (k.2 i (Nat.lt_of_lt_of_le hi h.1) x hx)⟩
theorem Le.push (g : Gh) (x : Option GB) : Le g (g ++ [x]) :=
  ⟨by simp, fun i hi y hy => by rw [List.getElem?_append_left hi] at hy; exact hy⟩
theorem Le.kill (g : Gh) (i : Nat) : Le g (g.set i none) :=
  ⟨by simp, fun j _ y hy => by
    by_cases h : i = j
    · subst h; rw [List.getElem?_set] at hy; simp at hy
    · rw [List.getElem?_set_ne h] at hy; exact hy⟩
theorem AR.mono {g g' : Gh} (hl : Le g g') {a a' : Addr} (h : AR g a a') : AR g' a a' :=
  ⟨Nat.lt_of_lt_of_le h.1 hl.1, fun x hx => h.2 x (hl.2 _ h.1 x hx)⟩
theorem BR.mono {g g' : Gh} (hl : Le g g') {a a' : Nat} (h : BR g a a') : BR g' a a' :=
  ⟨Nat.lt_of_lt_of_le h.1 hl.1, fun x hx => h.2 x (hl.2 _ h.1 x hx)⟩
mutual
theorem VR.mono {g g' : Gh} (hl : Le g g') {v v' : Value} (h : VR g v v') : VR g' v v' := by
  cases h with
  | gr h => exact .gr h
  | ptr h => exact .ptr (h.mono hl)
  | sl h1 h => exact .sl h1 (h.mono hl)
  | osl h1 h h2 h3 => exact .osl h1 (h.mono hl) h2 (fun x hx => h3 x (hl.2 _ h.1 x hx))
  | map h => exact .map (h.mono hl)
  | yield h => exact .yield (h.mono hl)
  | func h1 h2 => exact .func (VRL.mono hl h1) (VRL.mono hl h2)
  | iface h1 => exact .iface (VR.mono hl h1)
  | agg h1 => exact .agg (VRL.mono hl h1)
  | tuple h1 => exact .tuple (VRL.mono hl h1)
theorem VRL.mono {g g' : Gh} (hl : Le g g') {l l' : List Value} (h : VRL g l l') : VRL g' l l' := by
  cases h with
  | nil => exact .nil
  | cons h1 h2 => exact .cons (VR.mono hl h1) (VRL.mono hl h2)
end
theorem VRL.length {g : Gh} : ∀ {l l' : List Value}, VRL g l l' → l'.length = l.length
  | _, _, .nil => rfl
  | _, _, .cons _ h => by simp [VRL.length h]
theorem VRL.get {g : Gh} : ∀ {l l' : List Value}, VRL g l l' → ∀ {i : Nat} {v : Value}, l[i]? = some v → ∃ v', l'[i]? = some v' ∧ VR g v v'
  | _, _, .nil, i, v, h => by simp at h
  | _, _, .cons hv _, 0, v, h => by simp at h; subst h; exact ⟨_, by simp, hv⟩
  | _, _, .cons _ hl, i + 1, v, h => by simp at h ⊢; exact VRL.get hl h
theorem VRL.of_get {g : Gh} : ∀ {l l' : List Value}, l'.length = l.length → (∀ (i : Nat) (v v' : Value), l[i]? = some v → l'[i]? = some v' → VR g v v') → VRL g l l'
  | [], [], _, _ => .nil
  | [], _ :: _, h, _ => by simp at h
  | _ :: _, [], h, _ => by simp at h
  | v :: l, v' :: l', h, hh => .cons (hh 0 v v' (by simp) (by simp)) (VRL.of_get (by simpa using h) (fun i w w' h1 h2 => hh (i + 1) w w' (by simpa using h1) (by simpa using h2)))
theorem VRL.append {g : Gh} : ∀ {a a' b b' : List Value}, VRL g a a' → VRL g b b' → VRL g (a ++ b) (a' ++ b')
  | _, _, _, _, .nil, h => h
  | _, _, _, _, .cons h1 h2, h => .cons h1 (VRL.append h2 h)
theorem VRL.take {g : Gh} : ∀ {a a' : List Value}, VRL g a a' → ∀ n, VRL g (a.take n) (a'.take n)
  | _, _, .nil, n => by simp; exact .nil
  | _, _, .cons _ _, 0 => .nil
  | _, _, .cons h1 h2, n + 1 => .cons h1 (VRL.take h2 n)
theorem VRL.drop {g : Gh} : ∀ {a a' : List Value}, VRL g a a' → ∀ n, VRL g (a.drop n) (a'.drop n)
  | _, _, .nil, n => by simp; exact .nil
  | _, _, .cons h1 h2, 0 => .cons h1 h2
  | _, _, .cons _ h2, n + 1 => by simpa using VRL.drop h2 n
theorem VRL.map {g : Gh} {α : Type} {f f' : α → Value} : ∀ {l : List α}, (∀ x, x ∈ l → VR g (f x) (f' x)) → VRL g (l.map f) (l.map f')
  | [], _ => .nil
  | x :: l, h => .cons (h x (by simp)) (VRL.map fun y hy => h y (by simp [hy]))
theorem ground_undef : ground undef = true := rfl
theorem lget_vr {g : Gh} : ∀ {l l' : List Value}, VRL g l l' → ∀ i, VR g (lget l i) (l'.getD i undef)
  | _, _, .nil, i => by simp [lget]; exact .gr ground_undef
  | _, _, .cons h _, 0 => by simpa [lget] using h
  | _, _, .cons _ h, i + 1 => by simpa [lget] using lget_vr h i
theorem lset_eq : ∀ (l : List Value) (i : Nat) (v : Value), lset l i v = l.set i v
  | [], _, _ => by simp [lset]
  | _ :: _, 0, _ => by simp [lset]
  | _ :: l, i + 1, v => by simp [lset, lset_eq l i v]
theorem VRL.set {g : Gh} : ∀ {l l' : List Value}, VRL g l l' → ∀ (i : Nat) {v v' : Value}, VR g v v' → VRL g (l.set i v) (l'.set i v')
  | _, _, .nil, _, _, _, _ => by simp; exact .nil
  | _, _, .cons _ h, 0, _, _, hv => .cons hv h
  | _, _, .cons h h2, i + 1, _, _, hv => .cons h (VRL.set h2 i hv)
theorem Tr.get_mk : ∀ (f i j : Nat) (o : AObj), i ≤ f → (Tr.mk f i o).get j = if j = i then o else .dead
  | 0, i, j, o, h => by
    obtain rfl : i = 0 := by omega
    by_cases hj : j = 0
    · simp [Tr.mk, Tr.get, hj]
    · simp only [Tr.mk, Tr.get, hj, if_false]; split <;> rfl
  | f + 1, i, j, o, h => by
    simp only [Tr.mk]
    by_cases hi : i = 0
    · subst hi
      by_cases hj : j = 0
      · simp [Tr.get, hj]
      · simp only [if_true, Tr.get, hj, if_false]; split <;> rfl
    · simp only [hi, if_false]
      by_cases ho : i % 2 = 1
      · simp only [ho, if_true, Tr.get]
        by_cases hj : j = 0
        · simp [hj]; omega
        · simp only [hj, if_false]
          by_cases hp : j % 2 = 1
          · simp only [hp, if_true]
            rw [Tr.get_mk f _ _ _ (by omega)]
            by_cases e : j = i
            · simp [e]
            · rw [if_neg (by omega), if_neg e]
          · simp only [hp, if_false]
            rw [if_neg (by omega)]
      · simp only [ho, if_false, Tr.get]
        by_cases hj : j = 0
        · simp [hj]; omega
        · simp only [hj, if_false]
          by_cases hp : j % 2 = 1
          · simp only [hp, if_true]
            rw [if_neg (by omega)]
          · simp only [hp, if_false]
            rw [Tr.get_mk f _ _ _ (by omega)]
            by_cases e : j = i
            · simp [e]
            · rw [if_neg (by omega), if_neg e]
theorem Tr.get_set : ∀ (t : Tr) (i j : Nat) (o : AObj), (t.set i o).get j = if j = i then o else t.get j
  | .nil, i, j, o => by rw [Tr.set, Tr.get_mk i i j o (Nat.le_refl _)]; rfl
  | .node v l r, i, j, o => by
    simp only [Tr.set]
    by_cases hi : i = 0
    · subst hi
      by_cases hj : j = 0
      · simp [Tr.get, hj]
      · simp only [if_true, Tr.get, hj, if_false]
    · simp only [hi, if_false]
      by_cases ho : i % 2 = 1
      · simp only [ho, if_true, Tr.get]
        by_cases hj : j = 0
        · simp [hj]; omega
        · simp only [hj, if_false]
          by_cases hp : j % 2 = 1
          · simp only [hp, if_true]
            rw [Tr.get_set l]
            by_cases e : j = i
            · simp [e]
            · rw [if_neg (by omega), if_neg e]
          · simp only [hp, if_false]
            rw [if_neg (by omega)]
      · simp only [ho, if_false, Tr.get]
        by_cases hj : j = 0
        · simp [hj]; omega
        · simp only [hj, if_false]
          by_cases hp : j % 2 = 1
          · simp only [hp, if_true]
            rw [if_neg (by omega)]
          · simp only [hp, if_false]
            rw [Tr.get_set r]
            by_cases e : j = i
            · simp [e]
            · rw [if_neg (by omega), if_neg e]
theorem Heap.get_set (h : Heap) (i j : Nat) (o : AObj) : (h.set i o).get j = if j = i then o else h.get j := Tr.get_set _ _ _ _
theorem Heap.get_push (h : Heap) (j : Nat) (o : AObj) : (h.push o).get j = if j = h.n then o else h.get j := Tr.get_set _ _ _ _
@[simp] theorem Heap.n_set (h : Heap) (i : Nat) (o : AObj) : (h.set i o).n = h.n := rfl
@[simp] theorem Heap.n_push (h : Heap) (o : AObj) : (h.push o).n = h.n + 1 := rfl
theorem Heap.get_init (j : Nat) : Heap.init.get j = .dead := by
  simp only [Heap.get, Heap.init, Tr.get]; split; rfl; split <;> rfl
def ER (g : Gh) (a a' : MapEntry) : Prop := VR g a.key a'.key ∧ VR g a.val a'.val ∧ a'.born = a.born
inductive ERL (g : Gh) : List MapEntry → List MapEntry → Prop
  | nil : ERL g [] []
  | cons {a a' : MapEntry} {l l' : List MapEntry} : ER g a a' → ERL g l l' → ERL g (a :: l) (a' :: l')
theorem ERL.mono {g g' : Gh} (hl : Le g g') : ∀ {l l' : List MapEntry}, ERL g l l' → ERL g' l l'
  | _, _, .nil => .nil
  | _, _, .cons h t => .cons ⟨h.1.mono hl, h.2.1.mono hl, h.2.2⟩ (ERL.mono hl t)
def MR (g : Gh) : Option Nat → Option Nat → Prop
  | none, none => True
  | some a, some b => BR g a b
  | _, _ => False
theorem MR.mono {g g' : Gh} (hl : Le g g') {a b : Option Nat} (h : MR g a b) : MR g' a b := by
  cases a <;> cases b <;> simp_all [MR]
  exact BR.mono hl h
def CellsR (g : Gh) (w : World) (x : GB) (c : List Value) (es : Nat) : Prop :=
  ∃ (c' : Array Value) (el : TypeId) (fz : Nat × Nat), w.heap[x.b]? = some (.cells c' el fz) ∧ x.es = es ∧ x.tot = c'.size ∧ x.sh + c.length ≤ c'.size ∧
    (∀ o, o < c'.size → (decide (fz.1 ≤ o) && decide (o < fz.2)) = false) ∧ (es ≠ 1 → fz = (0, 0)) ∧ VRL g c ((c'.toList.drop x.sh).take c.length)
def RoR (g : Gh) (w : World) (x : GB) (c : List Value) : Prop :=
  ∃ (c' : Array Value) (el : TypeId) (fz : Nat × Nat), w.heap[x.b]? = some (.cells c' el fz) ∧ x.sh + c.length ≤ c'.size ∧ VRL g c ((c'.toList.drop x.sh).take c.length)
def OR (g : Gh) (w : World) (x : GB) : AObj → Prop
  | .ro c => RoR g w x c
  | .dead => True
  | .cells c es => CellsR g w x c es
  | .map es clock => ∃ es', w.heap[x.b]? = some (.map ⟨es'⟩ clock) ∧ ERL g es es' ∧ x.sh = 0
  | .strIter s pos => w.heap[x.b]? = some (.stringIter s pos) ∧ x.sh = 0
  | .mapIter m since seen stepped => ∃ m', w.heap[x.b]? = some (.mapIter m' since ⟨seen⟩ stepped) ∧ MR g m m' ∧ x.sh = 0
  | .loop st pend ts ps as b => ∃ (f : FuncId) (ts' : Array Value) (d : Nat), w.heap[x.b]? = some (.loop { state := st, pending := pend, fn := f, tmps := ts', params := ⟨ps⟩, assign := as, body := b, defers := d }) ∧ VRL g ts ts'.toList ∧ x.sh = 0
  | .defs taken => w.heap[x.b]? = some (.deferred (if taken then none else some [])) ∧ x.sh = 0
structure HR (g : Gh) (h : Heap) (B : Nat) (w0 w : World) : Prop where
  len : g.length = h.n
  alive : ∀ (i : Nat) (x : GB), g[i]? = some (some x) → (B ≤ x.b ∨ (h.get i).isRo = true) ∧ x.b < w.heap.size ∧ OR g w x (h.get i)
  inj : ∀ (i j : Nat) (x y : GB), B ≤ x.b → g[i]? = some (some x) → g[j]? = some (some y) → x.b = y.b → i = j
  dead : ∀ (i : Nat), (∀ (x : GB), g[i]? ≠ some (some x)) → h.get i = .dead
  below : Below B w0 w
  base : B ≤ w0.heap.size
  zero : g[0]? = some none
theorem OR.mono {g g' : Gh} (hl : Le g g') {w : World} {x : GB} : ∀ {o : AObj}, OR g w x o → OR g' w x o
  | .dead, _ => trivial
  | .ro _, ⟨c', el, fz, h1, h2, h3⟩ => ⟨c', el, fz, h1, h2, h3.mono hl⟩
  | .cells _ _, ⟨c', el, fz, h1, h2, h3, h4, h5, h7, h6⟩ => ⟨c', el, fz, h1, h2, h3, h4, h5, h7, h6.mono hl⟩
  | .map _ _, ⟨es', h1, h2, h3⟩ => ⟨es', h1, h2.mono hl, h3⟩
  | .strIter _ _, h => h
  | .mapIter _ _ _ _, ⟨m', h1, h2, h3⟩ => ⟨m', h1, h2.mono hl, h3⟩
  | .loop _ _ _ _ _ _, ⟨f, ts', d, h1, h2, h3⟩ => ⟨f, ts', d, h1, h2.mono hl, h3⟩
  | .defs _, h => h
theorem OR.heap {g : Gh} {w w' : World} {x : GB} (hw : w'.heap[x.b]? = w.heap[x.b]?) : ∀ {o : AObj}, OR g w x o → OR g w' x o
  | .dead, _ => trivial
  | .ro _, ⟨c', el, fz, h1, h2⟩ => ⟨c', el, fz, hw.trans h1, h2⟩
  | .cells _ _, ⟨c', el, fz, h1, h2⟩ => ⟨c', el, fz, hw.trans h1, h2⟩
  | .map _ _, ⟨es', h1, h2⟩ => ⟨es', hw.trans h1, h2⟩
  | .strIter _ _, h => ⟨hw.trans h.1, h.2⟩
  | .mapIter _ _ _ _, ⟨m', h1, h2⟩ => ⟨m', hw.trans h1, h2⟩
  | .loop _ _ _ _ _ _, ⟨f, ts', d, h1, h2⟩ => ⟨f, ts', d, hw.trans h1, h2⟩
  | .defs _, h => ⟨hw.trans h.1, h.2⟩
section
variable {g : Gh} {h : Heap} {B : Nat} {w0 w : World}
theorem HR.drawn (hr : HR g h B w0 w) (n : Nat) : HR g h B w0 { w with drawn := n } :=
  { hr with
    alive := fun i x hx => let ⟨a, b, c⟩ := hr.alive i x hx; ⟨a, b, c.heap rfl⟩
    below := ⟨hr.below.os, hr.below.tape, hr.below.output, hr.below.size, hr.below.block⟩ }
theorem HR.push (hr : HR g h B w0 w) {o : AObj} {o' : Obj} {es tot : Nat}
    (ho : OR (g ++ [some ⟨w.heap.size, 0, es, tot⟩]) { w with heap := w.heap.push o' } ⟨w.heap.size, 0, es, tot⟩ o) :
    HR (g ++ [some ⟨w.heap.size, 0, es, tot⟩]) (h.push o) B w0 { w with heap := w.heap.push o' } where
  len := by simp [hr.len]
  alive := fun i x hx => by
    rw [Heap.get_push]
    by_cases hi : i < g.length
    · rw [List.getElem?_append_left hi] at hx
      obtain ⟨a, b, c⟩ := hr.alive i x hx
      have hn : i ≠ h.n := by rw [← hr.len]; omega
      rw [if_neg hn]
      exact ⟨a, by simp; omega, (c.mono (Le.push _ _)).heap (by simp only [Array.getElem?_push]; rw [if_neg (by omega)])⟩
    · have hil : i = g.length := by
        have := (List.getElem?_eq_some_iff.1 hx).1
        simp at this; omega
      subst hil
      simp at hx
      subst hx
      rw [if_pos hr.len]
      exact ⟨.inl (Nat.le_trans hr.base hr.below.size), by simp, ho⟩
  inj := fun i j x y hB hx hy hb => by
    have sp : ∀ i x, (g ++ [some (⟨w.heap.size, 0, es, tot⟩ : GB)])[i]? = some (some x) → (i < g.length ∧ g[i]? = some (some x) ∧ x.b < w.heap.size) ∨ (i = g.length ∧ x.b = w.heap.size) := fun i x hx => by
      by_cases hi : i < g.length
      · rw [List.getElem?_append_left hi] at hx
        exact .inl ⟨hi, hx, (hr.alive i x hx).2.1⟩
      · have hil : i = g.length := by
          have := (List.getElem?_eq_some_iff.1 hx).1
          simp at this; omega
        subst hil
        simp at hx
        subst hx
        exact .inr ⟨rfl, rfl⟩
    rcases sp i x hx with ⟨h1, h2, h3⟩ | ⟨h1, h3⟩ <;> rcases sp j y hy with ⟨k1, k2, k3⟩ | ⟨k1, k3⟩
    · exact hr.inj i j x y hB h2 k2 hb
    · omega
    · omega
    · omega
  dead := fun i hi => by
    rw [Heap.get_push]
    by_cases e : i = h.n
    · exfalso
      refine hi ⟨w.heap.size, 0, es, tot⟩ ?_
      rw [e, ← hr.len]; simp
    · rw [if_neg e]
      refine hr.dead i fun x hx => ?_
      have hl := (List.getElem?_eq_some_iff.1 hx).1
      exact hi x (by rw [List.getElem?_append_left hl]; exact hx)
  below := hr.below.trans ⟨rfl, rfl, rfl, by simp, fun k hk => by
    have := Nat.le_trans hr.base hr.below.size
    simp only [Array.getElem?_push]; rw [if_neg (by omega)]⟩
  base := hr.base
  zero := by
    have h0 := hr.zero
    have hl := (List.getElem?_eq_some_iff.1 h0).1
    rw [List.getElem?_append_left hl]; exact h0
theorem HR.own (hr : HR g h B w0 w) {i : Nat} {x : GB} (hx : g[i]? = some (some x)) (hro : (h.get i).isRo = false) : B ≤ x.b := by
  rcases (hr.alive i x hx).1 with h1 | h1
  · exact h1
  · rw [hro] at h1; cases h1
theorem HR.set (hr : HR g h B w0 w) {i : Nat} {x : GB} {o : AObj} {o' : Obj} (hx : g[i]? = some (some x)) (hro : (h.get i).isRo = false) {w' : World}
    (hw : w'.heap = w.heap.setIfInBounds x.b o') (hw1 : w'.os = w.os) (hw2 : w'.tape = w.tape) (hw3 : w'.output = w.output)
    (ho : OR g w' x o) : HR g (h.set i o) B w0 w' where
  len := hr.len
  alive := fun j y hy => by
    rw [Heap.get_set]
    by_cases e : j = i
    · subst e
      rw [hx] at hy; cases hy
      rw [if_pos rfl]
      exact ⟨.inl (hr.own hx hro), by rw [hw]; simp; exact (hr.alive j x hx).2.1, ho⟩
    · rw [if_neg e]
      obtain ⟨a, b, c⟩ := hr.alive j y hy
      have hne : x.b ≠ y.b := fun hb => e (hr.inj i j x y (hr.own hx hro) hx hy hb).symm
      exact ⟨a, by rw [hw]; simpa using b, c.heap (by rw [hw, Array.getElem?_setIfInBounds_ne hne])⟩
  inj := hr.inj
  dead := fun j hj => by
    rw [Heap.get_set]
    have : j ≠ i := fun e => hj x (e ▸ hx)
    rw [if_neg this]
    exact hr.dead j hj
  below := hr.below.trans ⟨hw1, hw2, hw3, by rw [hw]; simp, fun k hk => by
    rw [hw, Array.getElem?_setIfInBounds_ne]
    have := hr.own hx hro
    omega⟩
  base := hr.base
  zero := hr.zero
theorem HR.kill (hr : HR g h B w0 w) (i : Nat) : HR (g.set i none) (h.set i .dead) B w0 w where
  len := by simp [hr.len]
  alive := fun j y hy => by
    have hle := Le.kill g i
    have hj : j < g.length := by have := (List.getElem?_eq_some_iff.1 hy).1; simpa using this
    have hy' := hle.2 j hj y hy
    have hne : j ≠ i := fun e => by subst e; rw [List.getElem?_set] at hy; simp at hy
    rw [Heap.get_set, if_neg hne]
    obtain ⟨a, b, c⟩ := hr.alive j y hy'
    exact ⟨a, b, c.mono hle⟩
  inj := fun a b x y hB hx hy hb => by
    have hle := Le.kill g i
    have ha : a < g.length := by have := (List.getElem?_eq_some_iff.1 hx).1; simpa using this
    have hb' : b < g.length := by have := (List.getElem?_eq_some_iff.1 hy).1; simpa using this
    exact hr.inj a b x y hB (hle.2 a ha x hx) (hle.2 b hb' y hy) hb
  dead := fun j hj => by
    rw [Heap.get_set]
    by_cases e : j = i
    · rw [if_pos e]
    · rw [if_neg e]
      refine hr.dead j fun x hx => hj x ?_
      rw [List.getElem?_set_ne (Ne.symm e)]; exact hx
  below := hr.below
  base := hr.base
  zero := by
    by_cases e : i = 0
    · subst e
      have := (List.getElem?_eq_some_iff.1 hr.zero).1
      rw [List.getElem?_set_self this]
    · rw [List.getElem?_set_ne e]; exact hr.zero
theorem HR.of_cells (hr : HR g h B w0 w) {i : Nat} {c : List Value} {es : Nat} (hc : h.get i = .cells c es) : ∃ x, g[i]? = some (some x) ∧ CellsR g w x c es := by
  by_cases hx : ∃ x, g[i]? = some (some x)
  · obtain ⟨x, hx⟩ := hx
    have := (hr.alive i x hx).2.2
    rw [hc] at this
    exact ⟨x, hx, this⟩
  · have := hr.dead i fun x hx' => hx ⟨x, hx'⟩
    rw [hc] at this; cases this
theorem HR.of_read (hr : HR g h B w0 w) {i : Nat} {c : List Value} (hc : (h.get i).cellsOf = some c) :
    ∃ x, g[i]? = some (some x) ∧ ∃ (c' : Array Value) (el : TypeId) (fz : Nat × Nat), w.heap[x.b]? = some (.cells c' el fz) ∧ x.sh + c.length ≤ c'.size ∧ VRL g c ((c'.toList.drop x.sh).take c.length) := by
  cases ho : h.get i with
  | cells d es =>
    rw [ho] at hc
    cases hc
    obtain ⟨x, hx, c', el, fz, h1, h2, h3, h4, h5, h7, h6⟩ := hr.of_cells ho
    exact ⟨x, hx, c', el, fz, h1, h4, h6⟩
  | ro d =>
    rw [ho] at hc
    cases hc
    by_cases hx : ∃ x, g[i]? = some (some x)
    · obtain ⟨x, hx⟩ := hx
      have := (hr.alive i x hx).2.2
      rw [ho] at this
      exact ⟨x, hx, this⟩
    · have := hr.dead i fun x hx' => hx ⟨x, hx'⟩
      rw [ho] at this; cases this
  | _ => rw [ho] at hc; cases hc
end
end Go.Vm

/- A small machine over an abstract heap: reading and writing cells; what asks nobody. -/
namespace Go.Vm
open Go.RowKit
theorem over_eq : ∀ (l : List Value) (n : Nat) (xs : List Value), n + xs.length ≤ l.length → over l n xs = l.take n ++ xs ++ l.drop (n + xs.length)
  | l, 0, [], _ => by cases l <;> simp [over]
  | [], n + 1, [], h => by simp at h
  | [], n, x :: xs, h => by simp at h
  | v :: l, 0, x :: xs, h => by
    have := over_eq l 0 xs (by simp at h ⊢; omega)
    simp only [over, this]
    simp [Nat.add_comm]
  | v :: l, n + 1, xs, h => by
    have := over_eq l n xs (by simp at h ⊢; omega)
    simp only [over, this]
    simp [Nat.add_right_comm]
theorem over_length (l : List Value) (n : Nat) (xs : List Value) (h : n + xs.length ≤ l.length) : (over l n xs).length = l.length := by
  rw [over_eq l n xs h]; simp; omega
theorem over_vr {g : Gh} {l l' xs xs' : List Value} (h : VRL g l l') (hx : VRL g xs xs') (n : Nat) (hn : n + xs.length ≤ l.length) : VRL g (over l n xs) (over l' n xs') := by
  have e1 := h.length
  have e2 := hx.length
  rw [over_eq l n xs hn, over_eq l' n xs' (by omega), e2]
  exact ((h.take n).append hx).append (h.drop _)
theorem over_piece (l : List Value) (s m n : Nat) (xs : List Value) (h1 : s + m ≤ l.length) (h2 : n + xs.length ≤ m) :
    ((over l (s + n) xs).drop s).take m = over ((l.drop s).take m) n xs := by
  rw [over_eq l (s + n) xs (by omega), over_eq _ n xs (by simp; omega)]
  apply List.ext_getElem?
  intro j
  simp only [List.getElem?_take, List.getElem?_drop, List.getElem?_append, List.length_take, List.length_drop, List.length_append]
  repeat' split
  all_goals (try omega)
  all_goals (try rfl)
  all_goals (congr 1; omega)
theorem over_set : ∀ (c : List Value) (k : Nat) (v : Value) (r : List Value), k + (r.length + 1) ≤ c.length → over (c.set k v) (k + 1) r = over c k (v :: r)
  | [], k, v, r, h => by simp at h
  | x :: l, 0, v, r, _ => by simp [over]
  | x :: l, k + 1, v, r, h => by
    simp only [List.set_cons_succ, over]
    rw [over_set l k v r (by simp at h; omega)]
theorem modify_eq {α : Type} (a : Array α) (i : Nat) (f : α → α) {x : α} (h : a[i]? = some x) : a.modify i f = a.setIfInBounds i (f x) := by
  apply Array.ext_getElem?
  intro j
  rw [Array.getElem?_modify, Array.getElem?_setIfInBounds]
  by_cases e : i = j
  · subst e
    have := (Array.getElem?_eq_some_iff.1 h).1
    have hx : a[i] = x := by rw [Array.getElem?_eq_getElem this] at h; exact Option.some.inj h
    simp [hx, this]
  · simp [e]
def withBlock (w : World) (b : Nat) (o : Obj) : World := { w with heap := w.heap.setIfInBounds b o }
theorem setCell_block {w : World} {b o : Nat} {c : Array Value} {el : TypeId} {fz : Nat × Nat} (v : Value) (hb : w.heap[b]? = some (.cells c el fz)) :
    w.setCell ⟨b, o, none⟩ v = withBlock w b (.cells (c.setIfInBounds o v) el fz) := by
  unfold World.setCell withBlock
  rw [modify_eq _ _ _ hb]
  rfl
theorem withBlock_twice (w : World) (b : Nat) (o o' : Obj) : withBlock (withBlock w b o) b o' = withBlock w b o' := by
  unfold withBlock
  simp
theorem heap_withBlock {w : World} {b : Nat} {o o' : Obj} (h : w.heap[b]? = some o) : (withBlock w b o').heap[b]? = some o' := by
  have := (Array.getElem?_eq_some_iff.1 h).1
  simp [withBlock, this]
theorem withBlock_self {w : World} {b : Nat} {o : Obj} (h : w.heap[b]? = some o) : withBlock w b o = w := by
  unfold withBlock
  have : w.heap.setIfInBounds b o = w.heap := by
    apply Array.ext_getElem?
    intro j
    rw [Array.getElem?_setIfInBounds]
    by_cases e : b = j
    · subst e
      have := (Array.getElem?_eq_some_iff.1 h).1
      rw [if_pos rfl, if_pos this, h]
    · simp [e]
  rw [this]
theorem storeCells_run (P : Program) (b o : Nat) (el : TypeId) (fz : Nat × Nat) : ∀ (xs : List Value) (i : Nat) (c : List Value) (w : World),
    w.heap[b]? = some (.cells ⟨c⟩ el fz) → o + i + xs.length ≤ c.length → (∀ v ∈ xs, v.oneCell' = true) →
    (∀ k, k < c.length → (decide (fz.1 ≤ k) && decide (k < fz.2)) = false) →
    (storeCells ⟨b, o, none⟩ xs i).run P w = .ok () (withBlock w b (.cells ⟨over c (o + i) xs⟩ el fz))
  | [], i, c, w, hb, hl, _, _ => by
    have : over c (o + i) [] = c := by rw [over_eq c _ [] (by simpa using hl)]; simp
    simp only [storeCells, Sem.run_pure, this]
    rw [withBlock_self hb]
  | v :: r, i, c, w, hb, hl, h1, hf => by
    have hadd : (⟨b, o, none⟩ : Addr).add i = ⟨b, o + i, none⟩ := by unfold Addr.add; split <;> simp_all
    simp only [List.length_cons] at hl
    have hc : w.cell? ⟨b, o + i, none⟩ = some (c[o + i]'(by omega)) := by simp [World.cell?, hb]
    have hz : w.frozen? ⟨b, o + i, none⟩ = false := by simp only [World.frozen?, hb]; exact hf _ (by omega)
    simp only [storeCells, Sem.run_bind, hadd]
    rw [run_store P w _ v .plain (h1 v (by simp)), hc]
    simp only [hz, Bool.false_eq_true, if_false, Result.andThen_ok]
    rw [setCell_block v hb]
    have hb' : (withBlock w b (.cells ((⟨c⟩ : Array Value).setIfInBounds (o + i) v) el fz)).heap[b]? = some (.cells ⟨c.set (o + i) v⟩ el fz) := by
      rw [heap_withBlock hb]
      congr 2
      apply Array.ext'
      simp
    rw [storeCells_run P b o el fz r (i + 1) (c.set (o + i) v) _ hb' (by simp; omega) (fun x hx => h1 x (by simp [hx])) (by simpa using hf)]
    rw [withBlock_twice, ← Nat.add_assoc, over_set c (o + i) v r (by omega)]
section
variable {P : Program} {g : Gh} {h : Heap} {B : Nat} {w0 w : World}
theorem AR.at {a a' : Addr} (ha : AR g a a') {x : GB} (hx : g[a.block]? = some (some x)) : a' = ⟨x.b, x.sh + a.off, none⟩ := ha.2 x hx
theorem loadCells_sound' (hr : HR g h B w0 w) {b off n : Nat} {c : List Value} (hc : cellsAt h b off n = some c) {a a' : Addr} (ha : AR g a a') (hb : a.block = b) (ho : a.off = off) :
    ∃ c', (∀ w', w'.heap = w.heap → (loadCells a' n).run P w' = .ok ⟨c'⟩ w') ∧ VRL g c c' := by
  subst hb ho
  unfold cellsAt at hc
  by_cases hn0 : n = 0
  · subst hn0
    rw [if_pos rfl] at hc
    cases hc
    exact ⟨[], fun w' _ => rfl, .nil⟩
  rw [if_neg hn0] at hc
  split at hc
  · rename_i cs hg
    split at hc
    · rename_i hlen
      cases hc
      obtain ⟨x, hx, c', el, fz, h1, h4, h6⟩ := hr.of_read hg
      obtain rfl := ha.at hx
      refine ⟨((c'.toList.drop (x.sh + a.off)).take n), ?_, ?_⟩
      · intro w' hw'
        have hl : ((c'.toList.drop (x.sh + a.off)).take n).length = n := by simp; omega
        have := run_loadCells_list (P := P) (w := w') (⟨x.b, x.sh + a.off, none⟩ : Addr) ((c'.toList.drop (x.sh + a.off)).take n) (fun j v hj => by
          have hadd : (⟨x.b, x.sh + a.off, none⟩ : Addr).add j = ⟨x.b, x.sh + a.off + j, none⟩ := by unfold Addr.add; split <;> simp_all
          rw [hadd]
          simp only [World.cell?, hw', h1]
          rw [List.getElem?_take] at hj
          split at hj
          · rw [List.getElem?_drop] at hj; simpa using hj
          · cases hj)
        rw [hl] at this
        exact this
      · have := (h6.drop a.off).take n
        rw [List.drop_take, List.drop_drop, List.take_take] at this
        rw [show min n (cs.length - a.off) = n from by omega] at this
        exact this
    · cases hc
  · cases hc
theorem loadCells_sound (hr : HR g h B w0 w) {b off n : Nat} {c : List Value} (hc : cellsAt h b off n = some c) {a a' : Addr} (ha : AR g a a') (hb : a.block = b) (ho : a.off = off) :
    ∃ c', (loadCells a' n).run P w = .ok ⟨c'⟩ w ∧ VRL g c c' :=
  let ⟨c', h1, h2⟩ := loadCells_sound' (P := P) hr hc ha hb ho
  ⟨c', h1 w rfl, h2⟩
theorem loadOne_sound (hr : HR g h B w0 w) {b off : Nat} {v : Value} {r : List Value} (hc : cellsAt h b off 1 = some (v :: r)) {a a' : Addr} (ha : AR g a a') (hb : a.block = b) (ho : a.off = off) :
    ∃ v', (load a').run P w = .ok v' w ∧ VR g v v' := by
  subst hb ho
  unfold cellsAt at hc
  rw [if_neg (by omega)] at hc
  split at hc
  · rename_i cs hg
    split at hc
    · rename_i hlen
      obtain ⟨x, hx, c', el, fz, h1, h4, h6⟩ := hr.of_read hg
      obtain rfl := ha.at hx
      have hv : cs[a.off]? = some v := by
        have := congrArg (fun o => o.bind (·[0]?)) hc
        simp at this
        exact this
      obtain ⟨v', hv', hvr⟩ := h6.get hv
      rw [List.getElem?_take] at hv'
      split at hv'
      · rw [List.getElem?_drop] at hv'
        refine ⟨v', ?_, hvr⟩
        have : w.cell? ⟨x.b, x.sh + a.off, none⟩ = some v' := by simp only [World.cell?, h1]; simpa using hv'
        simp [this]
      · cases hv'
    · cases hc
  · cases hc
theorem oneCell_vr {v v' : Value} (hv : VR g v v') : v'.oneCell' = v.oneCell' := by
  cases hv <;> rfl
theorem one_of_vr {l l' : List Value} (hv : VRL g l l') (h1 : l.all Value.oneCell' = true) : ∀ v ∈ l', v.oneCell' = true := by
  induction l generalizing l' with
  | nil => cases hv; intro _ v; simp at v
  | cons u l ih =>
    cases hv with
    | cons hu hl =>
      intro v hv
      simp only [List.all_cons, Bool.and_eq_true] at h1
      rcases List.mem_cons.1 hv with rfl | hv
      · rw [oneCell_vr hu]; exact h1.1
      · exact ih hl h1.2 v hv
theorem store_sound (hr : HR g h B w0 w) {b off : Nat} {xs xs' : List Value} {h' : Heap} (hp : putAt h b off xs = some h') (hx : VRL g xs xs')
    {a a' : Addr} (ha : AR g a a') (hb : a.block = b) (ho : a.off = off) :
    ∃ w', (storeCells a' xs').run P w = .ok () w' ∧ HR g h' B w0 w' := by
  subst hb ho
  unfold putAt at hp
  split at hp
  · rename_i cs es hg
    split at hp
    · rename_i hlen
      obtain ⟨hlen, hone⟩ := hlen
      have h1 := one_of_vr hx hone
      cases hp
      obtain ⟨x, hgx, c', el, fz, e1, e2, e3, e4, e5, e7, e6⟩ := hr.of_cells hg
      obtain rfl := ha.at hgx
      obtain ⟨c'⟩ := c'
      simp only [List.size_toArray] at e3 e4 e5
      have hl := hx.length
      refine ⟨_, storeCells_run P x.b (x.sh + a.off) el fz xs' 0 c' w e1 (by omega) h1 e5, ?_⟩
      refine hr.set hgx (by rw [hg]; rfl) rfl rfl rfl rfl ⟨⟨over c' (x.sh + a.off) xs'⟩, el, fz, heap_withBlock e1, e2, ?_, ?_, ?_, e7, ?_⟩
      · simp only [List.size_toArray]; rw [over_length _ _ _ (by omega)]; exact e3
      · simp only [List.size_toArray]; rw [over_length c' _ _ (by omega), over_length cs _ _ hlen]; exact e4
      · simp only [List.size_toArray]; rw [over_length _ _ _ (by omega)]; exact e5
      · simp only
        rw [over_length _ _ _ hlen, over_piece c' x.sh cs.length a.off xs' (by omega) (by omega)]
        exact over_vr e6 hx a.off hlen
    · cases hp
  · cases hp
theorem alloc_sound (hr : HR g h B w0 w) {c c' : List Value} (hc : VRL g c c') (el : TypeId) (es : Nat) (fz : Nat × Nat) (extra : List Value)
    (hf : ∀ o, o < c'.length + extra.length → (decide (fz.1 ≤ o) && decide (o < fz.2)) = false) (he : es ≠ 1 → fz = (0, 0)) :
    HR (g ++ [some ⟨w.heap.size, 0, es, c'.length + extra.length⟩]) (h.push (.cells c es)) B w0 { w with heap := w.heap.push (.cells ⟨c' ++ extra⟩ el fz) } :=
  hr.push (by
    have := hc.length
    refine ⟨⟨c' ++ extra⟩, el, fz, by simp, rfl, by simp, by simp; omega, by simpa using hf, he, ?_⟩
    simp only [List.drop_zero]
    rw [List.take_append_of_le_length (by omega), List.take_of_length_le (by omega)]
    exact hc.mono (Le.push _ _))
theorem AR_new (hr : HR g h B w0 w) {b es tot : Nat} {k : Option Nat} : AR (g ++ [some ⟨b, 0, es, tot⟩]) ⟨h.n, 0, k⟩ ⟨b, 0, none⟩ :=
  ⟨by simp; rw [hr.len]; omega, fun x hx => by simp only [← hr.len] at hx; simp at hx; subst hx; simp⟩
theorem pr_sound {α : Type} (P : Program) : ∀ (s : Sem α) (w : World), (∀ a, pr P s = some (.ok a) → s.run P w = .ok a w) ∧ (∀ v, pr P s = some (.error v) → s.run P w = .halt (.panic v) w)
  | .pure b, w => ⟨fun a h => by simp only [pr, Option.some.injEq, Except.ok.injEq] at h; subst h; rfl, fun v h => by simp [pr] at h⟩
  | .program k, w => by simpa only [pr, Sem.run] using pr_sound P (k P) w
  | .halt x, w => by
    cases x <;> simp [pr, Sem.run]
  | .load .., w | .store .., w | .new .., w | .shape .., w | .freeze .., w | .frozen .., w | .getObj .., w | .setObj .., w | .choose .., w | .sys .., w | .mark .., w => by simp [pr]
end
def ResOK (g : Gh) (B : Nat) (w0 : World) : R → Result Next → Prop
  | .ok v h', r => ∃ g' v' w' nx, r = .ok nx w' ∧ (nx = .value v' ∨ (nx = .skip ∧ v' = undef)) ∧ Le g g' ∧ HR g' h' B w0 w' ∧ VR g' v v'
  | .pan v h', r => ∃ g' v' w', r = .halt (.panic v') w' ∧ Le g g' ∧ HR g' h' B w0 w' ∧ VR g' v v'
  | .bad, _ => True
section
variable {P : Program} {g : Gh} {h : Heap} {B : Nat} {w0 w : World}
theorem ResOK.same (hr : HR g h B w0 w) {v v' : Value} {r : Result Next} (hv : VR g v v') (h1 : r = .ok (.value v') w) : ResOK g B w0 (.ok v h) r :=
  ⟨g, v', w, _, h1, .inl rfl, Le.refl _, hr, hv⟩
theorem raw_sound (hr : HR g h B w0 w) {e e' : Operand → Value} (he : ∀ x, VR g (e x) (e' x)) (o : Oper) (hs : ∀ cs b, o.op ≠ .select cs b) :
    ResOK g B w0 (rawOp P e o h) ((execOp e' o).run P w) := by
  unfold rawOp
  split
  · rename_i hg
    have hcongr : execOp e' o = execOp e o := execOp_congr o hs fun x hx => by
      have := List.all_eq_true.1 hg x (by simpa using hx)
      exact (he x).eq_ground this
    rw [hcongr]
    split
    · rename_i v hv
      split
      · rename_i hgr
        exact ResOK.same hr (.gr hgr) ((pr_sound P _ w).1 _ hv)
      · trivial
    · rename_i v hv
      split
      · rename_i hgr
        exact ⟨g, v, w, (pr_sound P _ w).2 _ hv, Le.refl _, hr, .gr hgr⟩
      · trivial
    · trivial
  · trivial
end
end Go.Vm

/- A small machine over an abstract heap: its operations answer as the model's do. -/
namespace Go.Vm
open Go.RowKit
def OpOK (P : Program) (o : Oper) (op : AOp) : Prop :=
  ∀ (g : Gh) (h : Heap) (B : Nat) (w0 w : World) (e e' : Operand → Value), HR g h B w0 w → (∀ x, VR g (e x) (e' x)) →
    ResOK g B w0 (xop P e h op) ((execOp e' o).run P w)
section
variable {P : Program} {o : Oper} {op : AOp}
theorem run_info {t : TypeId} {i : TypeInfo} (h : P.info? t = some i) (w : World) : (typeInfo t).run P w = .ok i w := by
  simp [typeInfo, h]
theorem run_under {t : TypeId} {d : TypeDesc} (h : P.underlying t = some d) (w : World) : (underlying t).run P w = .ok d w := by
  simp [underlying, h]
theorem run_size {t : TypeId} {n : Nat} (h : sizeT P t = some n) (w : World) : (sizeOf t).run P w = .ok n w := by
  unfold sizeT at h
  cases hi : P.info? t with
  | none => simp [hi] at h
  | some i => simp [hi] at h; subst h; simp [sizeOf, run_info hi]
theorem zeroT_some {t : TypeId} {z : Value} (h : zeroT P t = some z) : ground z = true ∧ ∃ i, P.info? t = some i ∧ i.zero = some z := by
  unfold zeroT at h
  split at h
  · rename_i v hv
    split at h
    · rename_i hg
      cases h
      cases hi : P.info? t with
      | none => simp [hi] at hv
      | some i => exact ⟨hg, i, rfl, by simpa [hi] using hv⟩
    · cases h
  · cases h
theorem run_zero {t : TypeId} {z : Value} (h : zeroT P t = some z) (w : World) : (zeroValue t).run P w = .ok z w := by
  obtain ⟨_, i, hi, hz⟩ := zeroT_some h
  simp [zeroValue, run_info hi, hz]
theorem groundL_cells {v : Value} (h : ground v = true) : groundL v.cells.toList = true := by
  cases v with
  | agg cs => obtain ⟨l⟩ := cs; simpa [ground, groundA, Value.cells] using h
  | _ => simpa [Value.cells, groundL] using h
theorem zeroCellsT_some {t : TypeId} {z : List Value} (h : zeroCellsT P t = some z) : groundL z = true ∧ ∃ i v, P.info? t = some i ∧ zeroT P t = some v ∧ v.cells.toList = z ∧ z.length = i.size := by
  unfold zeroCellsT at h
  split at h
  · rename_i i v hi hv
    split at h
    · rename_i hs
      cases h
      exact ⟨groundL_cells (zeroT_some hv).1, i, v, hi, hv, rfl, by simpa using hs⟩
    · cases h
  · cases h
theorem aggOf_cases {t : TypeId} {ag : Option Nat} (h : aggOf P t = some ag) : ∃ i d, P.info? t = some i ∧ P.underlying t = some d ∧
    ((∃ fs, d = .struct fs) ∧ ag = some i.size ∨ (∃ n e, d = .array n e) ∧ ag = some i.size ∨ (∀ fs, d ≠ .struct fs) ∧ (∀ n e, d ≠ .array n e) ∧ ag = none) := by
  unfold aggOf at h
  cases hi : P.info? t with
  | none => simp [hi] at h
  | some i =>
    cases hu : P.underlying t with
    | none => simp [hi, hu] at h
    | some d =>
      refine ⟨i, d, rfl, rfl, ?_⟩
      rw [hi, hu] at h
      cases d <;> simp at h <;> subst h <;> simp
theorem aggOf_some {t : TypeId} {n : Nat} (h : aggOf P t = some (some n)) : (∀ w, (isAgg t).run P w = .ok true w) ∧ sizeT P t = some n := by
  obtain ⟨i, d, hi, hu, ⟨⟨fs, rfl⟩, h1⟩ | ⟨⟨m, e, rfl⟩, h1⟩ | ⟨_, _, h1⟩⟩ := aggOf_cases h
  · cases h1; exact ⟨fun w => by simp [isAgg, run_under hu], by simp [sizeT, hi]⟩
  · cases h1; exact ⟨fun w => by simp [isAgg, run_under hu], by simp [sizeT, hi]⟩
  · cases h1
theorem aggOf_none {t : TypeId} (h : aggOf P t = some none) : (∀ w, (isAgg t).run P w = .ok false w) := by
  obtain ⟨i, d, hi, hu, ⟨_, h1⟩ | ⟨_, h1⟩ | ⟨h2, h3, _⟩⟩ := aggOf_cases h
  · cases h1
  · cases h1
  · intro w
    simp only [isAgg, Sem.run_bind, run_under hu, Result.andThen_ok]
    cases d with
    | struct fs => exact absurd rfl (h2 fs)
    | array m e => exact absurd rfl (h3 m e)
    | _ => simp
theorem cells_vr {g : Gh} {v v' : Value} (h : VR g v v') : VRL g v.cells.toList v'.cells.toList := by
  cases h with
  | gr h => exact VRL.of_ground (groundL_cells h)
  | ptr h => exact .cons (.ptr h) .nil
  | sl h1 h => exact .cons (.sl h1 h) .nil
  | osl h1 h2 h3 h4 => exact .cons (.osl h1 h2 h3 h4) .nil
  | map h => exact .cons (.map h) .nil
  | yield h => exact .cons (.yield h) .nil
  | func h1 h2 => exact .cons (.func h1 h2) .nil
  | iface h => exact .cons (.iface h) .nil
  | agg h => exact h
  | tuple h => exact .cons (.tuple h) .nil
theorem VR.int {g : Gh} {k : IntKind} {n : Int} {v' : Value} (h : VR g (.int k n) v') : v' = .int k n := h.eq_ground rfl
theorem VR.bool {g : Gh} {b : Bool} {v' : Value} (h : VR g (.bool b) v') : v' = .bool b := h.eq_ground rfl
theorem VR.string {g : Gh} {s : ByteArray} {v' : Value} (h : VR g (.string s) v') : v' = .string s := h.eq_ground rfl
theorem VR.pointer {g : Gh} {a : Addr} {v' : Value} (h : VR g (.pointer (some a)) v') : ∃ a', v' = .pointer (some a') ∧ AR g a a' := by
  cases h with
  | gr h => simp [ground] at h
  | ptr h => exact ⟨_, rfl, h⟩
theorem VR.slice {g : Gh} {a : Addr} {n c : Nat} {v' : Value} (h : VR g (.slice (some a) n c) v') : ∃ a' c', v' = .slice (some a') n c' ∧ AR g a a' ∧ c ≤ c' ∧
    (a.spot = none → c' = c) ∧ (a.spot ≠ none → ∀ x, g[a.block]? = some (some x) → x.sh + a.off + c' * x.es ≤ x.tot) := by
  cases h with
  | gr h => simp [ground] at h
  | sl h1 h => exact ⟨_, _, rfl, h, Nat.le_refl _, fun _ => rfl, fun h2 => absurd h1 h2⟩
  | osl h1 h h2 h3 => exact ⟨_, _, rfl, h, h2, (fun h4 => by rw [h1] at h4; cases h4), fun _ => h3⟩
theorem VR.agg_inv {g : Gh} {c : List Value} {v' : Value} (h : VR g (.agg ⟨c⟩) v') : ∃ c', v' = .agg ⟨c'⟩ ∧ VRL g c c' := by
  cases h with
  | gr h => exact ⟨c, rfl, VRL.of_ground (by simpa [ground, groundA] using h)⟩
  | agg h => exact ⟨_, rfl, h⟩
theorem VR.tuple_inv {g : Gh} {c : List Value} {v' : Value} (h : VR g (.tuple ⟨c⟩) v') : ∃ c', v' = .tuple ⟨c'⟩ ∧ VRL g c c' := by
  cases h with
  | gr h => exact ⟨c, rfl, VRL.of_ground (by simpa [ground, groundA] using h)⟩
  | tuple h => exact ⟨_, rfl, h⟩
theorem VR.iface_inv {g : Gh} {t : TypeId} {v v' : Value} (h : VR g (.iface t v) v') : ∃ u, v' = .iface t u ∧ VR g v u := by
  cases h with
  | gr h => exact ⟨v, rfl, .gr (by simpa [ground] using h)⟩
  | iface h => exact ⟨_, rfl, h⟩
theorem VR.func_inv {g : Gh} {f : FuncId} {a b : List Value} {v' : Value} (h : VR g (.func (.func f) ⟨a⟩ ⟨b⟩) v') : ∃ a' b', v' = .func (.func f) ⟨a'⟩ ⟨b'⟩ ∧ VRL g a a' ∧ VRL g b b' := by
  cases h with
  | gr h => simp only [ground, groundA, Bool.and_eq_true] at h; exact ⟨a, b, rfl, VRL.of_ground h.1, VRL.of_ground h.2⟩
  | func h1 h2 => exact ⟨_, _, rfl, h1, h2⟩
theorem VR.map_inv {g : Gh} {r : Nat} {v' : Value} (h : VR g (.map (some r)) v') : ∃ r', v' = .map (some r') ∧ BR g r r' := by
  cases h with
  | gr h => simp [ground] at h
  | map h => exact ⟨_, rfl, h⟩
theorem ok_mov (x : Operand) (ho : o.op = .move x ∨ o.op = .assign x) : OpOK P o (.mov x) := by
  intro g h B w0 w e e' hr he
  refine ResOK.same hr (he x) ?_
  rcases ho with ho | ho <;> simp [execOp, ho]
theorem ok_pick {c a b : Operand} (ho : o.op = .pick c a b) : OpOK P o (.pick c a b) := by
  intro g h B w0 w e e' hr he
  simp only [xop]
  split
  · rename_i t ht
    have := he c; rw [ht] at this
    have hc := this.bool
    refine ResOK.same (v' := if t then e' a else e' b) hr (by cases t <;> simp [he]) ?_
    simp [execOp, ho, hc, asBool]
  · trivial
theorem ok_alloc {el : TypeId} {z : List Value} (ho : o.op = .alloc el) (hz : zeroCellsT P el = some z) : OpOK P o (.alloc el z) := by
  intro g h B w0 w e e' hr he
  obtain ⟨hg, i, v, hi, hv, hvz, hl⟩ := zeroCellsT_some hz
  have h1 := alloc_sound hr (VRL.of_ground (g := g) hg) el 0 (0, 0) [] (by simp) (by simp)
  refine ⟨_, .pointer (some ⟨w.heap.size, 0, none⟩), _, _, ?_, .inl rfl, Le.push _ _, h1, .ptr (AR_new hr)⟩
  simp [execOp, ho, Instr.alloc, run_zero hv, newVar, newRow, ← hvz]
theorem ok_box {el : TypeId} {x : Operand} (ho : o.op = .box el x) : OpOK P o (.box el x) := by
  intro g h B w0 w e e' hr he
  have h1 := alloc_sound hr (cells_vr (he x)) el 0 (0, 0) [] (by simp) (by simp)
  refine ⟨_, .pointer (some ⟨w.heap.size, 0, none⟩), _, _, ?_, .inl rfl, Le.push _ _, h1, .ptr (AR_new hr)⟩
  simp [execOp, ho, Instr.box, newVar, newRow]
theorem ok_load {t : TypeId} {x : Operand} {ag : Option Nat} (ho : o.op = .load t x) (ha : aggOf P t = some ag) : OpOK P o (.load ag x) := by
  intro g h B w0 w e e' hr he
  simp only [xop]
  split
  · rename_i a hx
    have := he x; rw [hx] at this
    obtain ⟨a', ha', har⟩ := this.pointer
    split
    · rename_i n
      split
      · rename_i c hc
        obtain ⟨c', hrun, hcr⟩ := loadCells_sound (P := P) hr hc har rfl rfl
        obtain ⟨h1, h2⟩ := aggOf_some ha
        refine ResOK.same hr (.agg hcr) ?_
        simp [execOp, ho, Instr.loadAt, ha', Instr.sureAddr, loadVar, h1, run_size h2, hrun]
      · trivial
    · split
      · rename_i v r hc
        obtain ⟨v', hrun, hvr⟩ := loadOne_sound (P := P) hr hc har rfl rfl
        have h1 := aggOf_none ha
        refine ResOK.same hr hvr ?_
        simp only [execOp, ho, Instr.loadAt, ha', Instr.sureAddr, loadVar, Sem.run_bind, Sem.run_pure, Result.andThen_ok, h1, Bool.false_eq_true, if_false, hrun]
      · trivial
  · trivial
theorem ok_store {t : TypeId} {x y : Operand} {n : Nat} (ho : o.op = .store t x y) (hn : sizeT P t = some n) : OpOK P o (.store n x y) := by
  intro g h B w0 w e e' hr he
  simp only [xop]
  split
  · rename_i a hx
    have := he x; rw [hx] at this
    obtain ⟨a', ha', har⟩ := this.pointer
    split
    · rename_i hc
      split
      · rename_i h' hp
        have hv := cells_vr (he y)
        have hlen := hv.length
        obtain ⟨w', hrun, hr'⟩ := store_sound (P := P) hr hp hv har rfl rfl
        refine ⟨g, undef, w', .skip, ?_, .inr ⟨rfl, rfl⟩, Le.refl _, hr', .gr rfl⟩
        have hsz : (e' y).cells.size = n := by
          have := hc
          have h3 : (e' y).cells.toList.length = (e y).cells.toList.length := hlen
          simp only [Array.length_toList] at h3
          omega
        simp only [execOp, ho, Instr.storeAt, ha', Instr.sureAddr, storeVar, Sem.run_bind, Sem.run_pure, Result.andThen_ok, run_size hn, hsz, ne_eq, not_true, if_false, hrun]
      · trivial
    · trivial
  · trivial
theorem run_nilDeref (w : World) : (runtimePanic (α := Next) .nilDeref).run P w = .halt (.panic (.iface P.rt.errorString (strVal "invalid memory address or nil pointer dereference"))) w := by
  simp [runtimePanic]
theorem ok_nilCheck {x : Operand} (ho : o.op = .nilCheck x) : OpOK P o (.nilCheck x) := by
  intro g h B w0 w e e' hr he
  simp only [xop]
  have hx := he x
  split
  · rename_i hv; rw [hv] at hx; have := hx.eq_ground rfl
    exact ⟨g, _, w, by simp only [execOp, ho, this]; exact run_nilDeref w, Le.refl _, hr, .gr rfl⟩
  · rename_i hv; rw [hv] at hx; have := hx.eq_ground rfl
    exact ⟨g, _, w, by simp only [execOp, ho, this]; exact run_nilDeref w, Le.refl _, hr, .gr rfl⟩
  · rename_i hv; rw [hv] at hx; have := hx.eq_ground rfl
    exact ⟨g, _, w, by simp only [execOp, ho, this]; exact run_nilDeref w, Le.refl _, hr, .gr rfl⟩
  · rename_i a hv; rw [hv] at hx
    obtain ⟨a', ha', har⟩ := hx.pointer
    exact ResOK.same hr (.ptr har) (by simp [execOp, ho, ha'])
  · rename_i f a b hv; rw [hv] at hx
    obtain ⟨⟨a⟩⟩ := a; obtain ⟨⟨b⟩⟩ := b
    all_goals (obtain ⟨a', b', hv', h1, h2⟩ := hx.func_inv; exact ResOK.same hr (.func h1 h2) (by simp [execOp, ho, hv']))
  · rename_i t v hv; rw [hv] at hx
    obtain ⟨u, hu, hvr⟩ := hx.iface_inv
    exact ResOK.same hr (.iface hvr) (by simp [execOp, ho, hu])
  · trivial
end
end Go.Vm
