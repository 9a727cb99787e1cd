/- A small machine over an abstract heap: from the model's code to its own, and its runs. -/
import Derived.Test.YtoadcfjkkoemdaaVm1
namespace Go.Vm

/-! ### From the model's code -/

def aggOf (P : Program) (t : TypeId) : Option (Option Nat) :=
  match P.info? t, P.underlying t with
  | some i, some (.struct _) | some i, some (.array _ _) => some (some i.size)
  | some _, some _ => some none
  | _, _ => none

def sizeT (P : Program) (t : TypeId) : Option Nat := (P.info? t).map (·.size)

def zeroT (P : Program) (t : TypeId) : Option Value :=
  match (P.info? t).bind (·.zero) with
  | some v => if ground v then some v else none
  | none => none

/-- the cells of a zero, where it has the type's size -/
def zeroCellsT (P : Program) (t : TypeId) : Option (List Value) :=
  match P.info? t, zeroT P t with
  | some i, some v => if v.cells.size = i.size then some v.cells.toList else none
  | _, _ => none

def placesOf (P : Program) : List Field → Option (List (Nat × Nat))
  | [] => some []
  | f :: fs => match sizeT P f.type, placesOf P fs with
    | some s, some l => some ((f.offset, s) :: l)
    | _, _ => none

def partsAt (places : List (Nat × Nat)) : List (Nat × Operand) → Option (List (Nat × Nat × Operand))
  | [] => some []
  | (i, x) :: r => match places[i]?, partsAt places r with
    | some (o, s), some l => some ((o, s, x) :: l)
    | _, _ => none

def kindT (P : Program) (t : TypeId) : Option TypeDesc :=
  match P.underlying t with
  | some (.int k) => some (.int k)
  | some .string => some .string
  | some .bool => some .bool
  | _ => none

def compBuiltin (P : Program) (b : Builtin) (c : Call) (o : Oper) : Option AOp :=
  match b, c.args.toList, c.argTypes.toList with
  | .len, [x], [t] =>
    match P.underlying t with
    | some (.array n _) => some (.lenArr n)
    | some (.pointer a) => match P.underlying a with
      | some (.array n _) => some (.lenArr n)
      | _ => none
    | some .string => some (.lenStr x)
    | some (.slice _) => some (.lenSl x)
    | some (.map _ _) => some (.lenMap x)
    | _ => none
  | .cap, [x], [t] =>
    match P.underlying t with
    | some (.slice _) => some (.cap x)
    | _ => none
  | .append, [s, x], [ts, tx] =>
    match P.underlying ts, P.underlying tx with
    | some (.slice el), some d =>
      match P.info? el, zeroCellsT P el with
      | some i, some z => match d with
        | .int _ => some (.append el i.size i.bytes z true s x)
        | .slice _ | .string => some (.append el i.size i.bytes z false s x)
        | _ => none
      | _, _ => none
    | _, _ => none
  | .copy, [d, s], t :: _ =>
    match P.underlying t with
    | some (.slice el) => (sizeT P el).map fun n => .copy n d s
    | _ => none
  | .delete, [m, k], t :: _ =>
    match P.underlying t with
    | some (.map kt _) => (kindT P kt).map fun kd => .delete kd m k
    | _ => none
  | .min, _, _ => some (.raw o)
  | .max, _, _ => some (.raw o)
  | .recover, [], _ => some .recover
  | _, _, _ => none

def isNeq : BinOp → Bool
  | .neq => true
  | _ => false

/-- an operation without its place in the text -/
def slim (o : Oper) : Oper := { dst := none, op := o.op, type := o.type, pos := "", after := #[], guard := none }

def extOf (P : Program) : Operand → Option ExtK
  | .func f => extFn P f
  | _ => none

def compOp (P : Program) (o' : Oper) : Option AOp :=
  let o := slim o'
  match o.op with
  | .move x => some (.mov x)
  | .assign x => some (.mov x)
  | .pick c a b => some (.pick c a b)
  | .alloc el => (zeroCellsT P el).map fun z => .alloc el z
  | .box el x => some (.box el x)
  | .build t parts =>
    match P.underlying t, zeroT P t with
    | some (.struct fs), some z => match placesOf P fs.toList with
      | some pl => (partsAt pl parts.toList).map fun l => .build z.cells.toList l
      | none => none
    | some (.array n el), some z => match sizeT P el with
      | some s => (partsAt ((List.range (n + 1)).map fun i => (i * s, s)) parts.toList).map fun l => .build z.cells.toList l
      | none => none
    | _, _ => none
  | .buildSlice t len parts =>
    match P.underlying t with
    | some (.slice el) => match sizeT P el, zeroCellsT P el with
      | some s, some z => if s ≠ 0 ∧ len * s ≤ 16777216 then
          (partsAt ((List.range (len + 1)).map fun i => (i * s, s)) parts.toList).map fun l => .buildSlice el (repeatL z len) len l
        else none
      | _, _ => none
    | _ => none
  | .load t a => (aggOf P t).map fun g => .load g a
  | .store t a x => (sizeT P t).map fun n => .store n a x
  | .nilCheck x => some (.nilCheck x)
  | .binOp op t x y _ =>
    match op with
    | .eql | .neq =>
      match P.underlying t with
      | some (.pointer el) => match sizeT P el with
        | some (_ + 1) => some (.eq .ptr (isNeq op) o x y)
        | _ => some (.raw o)
      | some (.slice _) => some (.eq .slice (isNeq op) o x y)
      | some (.map _ _) => some (.eq .map (isNeq op) o x y)
      | some (.func _ _ _) => some (.eq .func (isNeq op) o x y)
      | some (.interface _) => some (.eq .iface (isNeq op) o x y)
      | _ => some (.bin op o x y)
    | _ => some (.bin op o x y)
  | .unOp _ _ _ => some (.raw o)
  | .convert src dst x =>
    match P.underlying src, P.underlying dst with
    | some _, some (.int k) => some (.conv k o x)
    | some (.slice el), some .string => match P.underlying el with
      | some (.int .u8) => some (.bytesToStr x)
      | _ => some (.raw o)
    | some .string, some (.slice el) => match P.underlying el, sizeT P el with
      | some (.int .u8), some 1 => some (.strToBytes el x)
      | _, _ => none
    | _, _ => some (.raw o)
  | .makeInterface t x =>
    match P.underlying t with
    | some (.interface _) => none
    | some _ => some (.mkIface t x)
    | none => none
  | .makeFunc fn first captured =>
    match fn with
    | .func _ => some (.mkFunc fn first.toList captured.toList)
    | _ => none
  | .makeMap _ none => some .mkMap
  | .makeSlice t l c =>
    match P.underlying t with
    | some (.slice el) => match P.info? el, zeroCellsT P el with
      | some i, some z => some (.makeSlice el i.size i.bytes z l c)
      | _, _ => none
    | _ => none
  | .slice t x lo hi mx =>
    match P.underlying t with
    | some (.array n el) => match sizeT P el, mx with
      | some s, none => if s = 0 then none else some (.sliceArr n s x lo hi)
      | _, _ => none
    | some (.pointer a) => match P.underlying a with
      | some (.array n el) => match sizeT P el, mx with
        | some s, none => if s = 0 then none else some (.sliceArr n s x lo hi)
        | _, _ => none
      | _ => none
    | some (.slice el) => match sizeT P el with
      | some s => if s = 0 ∨ (mx.isSome = true ∧ hi.isNone = true) then none else some (.sliceSl s x lo hi mx)
      | none => none
    | some .string => match mx with
      | none => some (.sliceStr x lo hi)
      | some _ => none
    | _ => none
  | .fieldAddr s x f =>
    match P.underlying s with
    | some (.struct fs) => match fs[f]? with
      | some fd => match sizeT P fd.type with
        | some n => if n = 0 then none else some (.fieldAddr fd.offset x)
        | none => none
      | none => none
    | _ => none
  | .field s x f =>
    match P.underlying s with
    | some (.struct fs) => match fs[f]? with
      | some fd => (aggOf P fd.type).map fun g => .field g fd.offset x
      | none => none
    | _ => none
  | .indexAddr t x i =>
    match P.underlying t with
    | some (.array n el) => match sizeT P el with
      | some s => if s = 0 then none else some (.indexArr n s x i)
      | none => none
    | some (.slice el) => match sizeT P el with
      | some s => if s = 0 then none else some (.indexSl s x i)
      | none => none
    | _ => none
  | .index t x i =>
    match P.underlying t with
    | some (.array n el) => match sizeT P el, aggOf P el with
      | some s, some g => some (.index n s g x i)
      | _, _ => none
    | some .string => some (.raw o)
    | _ => none
  | .lookup t m k ok =>
    match P.underlying t with
    | some (.map kt el) => match kindT P kt, zeroT P el with
      | some kd, some z => some (.lookup kd z ok m k)
      | _, _ => none
    | _ => none
  | .mapUpdate t m k x | .insert t m k x =>
    match P.underlying t with
    | some (.map kt _) => (kindT P kt).map fun kd => .mapUpdate kd m k x
    | _ => none
  | .range t x =>
    match P.underlying t with
    | some .string => some (.rangeStr x)
    | some (.map _ _) => some (.rangeMap x)
    | _ => none
  | .next it isString => some (if isString then .nextStr it else .nextMap it)
  | .entry it => some (.entryMap it)
  | .typeAssert x _ t ok =>
    match P.underlying t, zeroT P t with
    | some (.interface _), _ => none
    | some _, some z => some (.assertTo t z ok x)
    | _, _ => none
  | .extract x i => some (.extract i x)
  | .sliceToArrayPointer t x =>
    match P.underlying t with
    | some (.array n _) => some (.arrayAt n x)
    | _ => none
  | .panic x => some (.panic x)
  | .call c =>
    match c.callee with
    | .value f => match extOf P f with
      | some k => some (.ext k f c.args.toList)
      | none => some (.callV f c.args.toList)
    | .invoke r name => some (.invoke r name c.args.toList)
    | .builtin b => compBuiltin P b c o
  | .defer c =>
    match c.callee with
    | .value f => some (.defer f c.args.toList)
    | _ => none
  | _ => none

def okOpd : Operand → Bool
  | .const v => ground v
  | _ => true

def compOper (P : Program) (ops : Array Oper) (o : Oper) : Option AOper :=
  if o.op.operands.toList.all okOpd = false then none else
  match compOp P o with
  | none => none
  | some op =>
    match o.guard with
    | none => some { dst := o.dst, op, guard := none }
    | some (j, want) => match (ops[j]?).bind (·.dst) with
      | some t => some { dst := o.dst, op, guard := some (t, want) }
      | none => none

def compList {α β : Type} (f : α → Option β) : List α → Option (List β)
  | [] => some []
  | a :: l => match f a, compList f l with
    | some b, some m => some (b :: m)
    | _, _ => none

inductive Kind where
  | pure | read | write
  deriving DecidableEq

def AOp.kind : AOp → Kind
  | .load _ _ | .bytesToStr _ | .lookup _ _ _ _ _ | .lenMap _ | .eq _ _ _ _ _ | .entryMap _ | .ext _ _ _ => .read
  | .alloc _ _ | .box _ _ | .store _ _ _ | .strToBytes _ _ | .buildSlice _ _ _ _ | .makeSlice _ _ _ _ _ _ | .append _ _ _ _ _ _ _ | .copy _ _ _ | .panic _ | .defer _ _
  | .callV _ _ | .invoke _ _ _ | .recover | .mkMap | .mapUpdate _ _ _ _ | .delete _ _ _ | .rangeMap _ | .rangeStr _ | .nextMap _ | .nextStr _ => .write
  | _ => .pure

/-! A region that draws its order: an order in which each operation is ready, reading ones as soon as they can be. -/

def AOp.opds : AOp → List Operand
  | .mov x | .box _ x | .load _ x | .nilCheck x | .bytesToStr x | .strToBytes _ x | .fieldAddr _ x | .field _ _ x | .extract _ x | .arrayAt _ x | .mkIface _ x | .assertTo _ _ _ x
  | .lenStr x | .lenSl x | .lenMap x | .cap x | .panic x | .rangeMap x | .rangeStr x | .nextMap x | .nextStr x | .entryMap x => [x]
  | .alloc _ _ | .lenArr _ | .recover | .mkMap => []
  | .pick c a b => [c, a, b]
  | .store _ a x | .indexArr _ _ a x | .indexSl _ a x | .index _ _ _ a x | .makeSlice _ _ _ _ a x | .append _ _ _ _ _ a x | .copy _ a x | .lookup _ _ _ a x | .delete _ a x => [a, x]
  | .bin _ o x y | .eq _ _ o x y => x :: y :: o.op.operands.toList
  | .conv _ o x => x :: o.op.operands.toList
  | .raw o => o.op.operands.toList
  | .sliceArr _ _ x lo hi | .sliceStr x lo hi => x :: (lo.toList ++ hi.toList)
  | .sliceSl _ x lo hi mx => x :: (lo.toList ++ hi.toList ++ mx.toList)
  | .build _ ps | .buildSlice _ _ _ ps => ps.map (·.2.2)
  | .mkFunc _ a b => a ++ b
  | .mapUpdate _ m k x => [m, k, x]
  | .defer f args | .callV f args | .invoke f _ args => f :: args
  | .ext _ f args => f :: args

def AOp.noSel : AOp → Bool
  | .bin _ o _ _ | .eq _ _ o _ _ | .conv _ o _ | .raw o => match o.op with
    | .select _ _ => false
    | _ => true
  | _ => true

def tmpsOf (l : List Operand) : List Nat := l.filterMap fun | .tmp t => some t | _ => none

def readyL (ops : Array Oper) (done : Nat) (i : Nat) : Bool :=
  !done.testBit i && ((ops[i]?).map (·.after.all fun e => !Region.binds .any e || done.testBit e.on)).getD false

def orderGo (ops : Array Oper) (w : Nat → Bool) : Nat → Nat → List Nat
  | 0, _ => []
  | n + 1, done =>
    let rs := (List.range ops.size).filter (readyL ops done)
    match rs.find? (fun i => !w i) with
    | some i => i :: orderGo ops w n (done ||| 2 ^ i)
    | none => match rs with
      | i :: _ => i :: orderGo ops w n (done ||| 2 ^ i)
      | [] => []

def ancOf (an : Array Nat) (i j : Nat) : Bool := (an.getD j 0).testBit i

def dstD (ops : Array Oper) (i : Nat) : Option Nat := (ops[i]?).bind (·.dst)

/-- the slots that an operation looks at -/
def useD (P : Program) (ops : Array Oper) (i : Nat) : List Nat :=
  match ops[i]? with
  | some o => tmpsOf o.op.operands.toList ++ (match o.guard with
     | some (g, _) => (dstD ops g).toList
     | none => []) ++ (match compOp P o with
     | some a => tmpsOf a.opds
     | none => [])
  | none => []

def kindW (P : Program) (ops : Array Oper) (i : Nat) : Bool :=
  match (ops[i]?).bind (compOp P) with
  | some a => a.kind = .write
  | none => true

/-- it writes: memory, or a slot at which another one looks that does not wait for it -/
def isW (P : Program) (ops : Array Oper) (an : Array Nat) (i : Nat) : Bool :=
  kindW P ops i || match dstD ops i with
  | some d => (useD P ops i).contains d || (List.range ops.size).any fun j => j != i && ((useD P ops j).contains d || dstD ops j == some d) && !ancOf an i j
  | none => false

def checkPos (P : Program) (ops : Array Oper) (an : Array Nat) : List Nat → List Nat → Bool
  | _, [] => true
  | done, i :: later =>
    decide (i < ops.size) && !done.contains i && (match ops[i]? with
      | some o => o.after.all fun e => !Region.binds .any e || decide (e.on < i)
      | none => false) && later.all (fun j => !ancOf an j i && (!isW P ops an i || ancOf an i j)) && (match (ops[i]?).bind (compOp P) with
      | some a => a.noSel
      | none => false) && checkPos P ops an (i :: done) later

def checkD (P : Program) (ops : Array Oper) (an : Array Nat) (order : List Nat) : Bool :=
  (List.range ops.size).all (fun i => order.contains i) && checkPos P ops an [] order

def triple (a : AOper) : Option Nat × AOp × Option (Nat × Bool) := (a.dst, a.op, a.guard)

def compOrder (P : Program) (ops : Array Oper) (an : Array Nat) : List Nat → List Nat → Option (List AOper)
  | _, [] => some []
  | done, i :: later => match (ops[i]?).bind (compOper P ops), compList (fun j => (ops[j]?).bind (compOper P ops)) (if isW P ops an i then done.filter fun j => !isW P ops an j && !ancOf an j i else []), compOrder P ops an (i :: done) later with
    | some a, some c, some l => some ({ a with chk := c.map triple, pan := done.all (fun j => ancOf an j i) && later.all (fun j => ancOf an i j) } :: l)
    | _, _, _ => none

def compD (P : Program) (ops : Array Oper) : Option (List AOper) :=
  let an := Region.before ops
  let order := orderGo ops (isW P ops an) ops.size 0
  if checkD P ops an order then compOrder P ops an [] order else none

def comp (P : Program) : Code → Option ACode
  | .skip => some .skip
  | .region _ ops false => (compList (fun i => (ops[i]?).bind (compOper P ops)) (List.range ops.size)).map .region
  | .region _ ops true => (compD P ops).map .regionD
  | .seq a b => match comp P a, comp P b with
    | some x, some y => some (.seq x y)
    | _, _ => none
  | .cond c t e => match okOpd c, comp P t, comp P e with
    | true, some x, some y => some (.cond c x y)
    | _, _, _ => none
  | .block id b => (comp P b).map (.block id)
  | .loop b => (comp P b).map .loop
  | .exit id => some (.exit id)
  | .ret => some .ret
  | .rangeFunc f ps as b => if okOpd f then some (.rangeFunc f ps.toList as b) else none
  | .scope b => (comp P b).map .scope
  | .label _ => some .skip
  | .goto _ => some .stuck
  | _ => none

/-- no call is put off in it -/
def noDefer : Code → Bool
  | .region _ ops _ => ops.all fun o => match o.op with
    | .defer _ => false
    | _ => true
  | .seq a b => noDefer a && noDefer b
  | .cond _ a b => noDefer a && noDefer b
  | .block _ b => noDefer b
  | .loop b => noDefer b
  | .scope b => noDefer b
  | _ => true

inductive CO where
  | ret (v : Value) (h : Heap)
  | pan (chain : List PanicEntry) (h : Heap)
  | bad

structure AFunc where
  ntmps : Nat
  results : List (Nat × Option (Option Nat))
  body : ACode
  /-- a function that is told by what it does -/
  prim : Option (List Value → Heap → List CO) := none
  deriving Inhabited

def compResults (P : Program) : List ResultVar → Option (List (Nat × Option (Option Nat)))
  | [] => some []
  | .tmp t :: l => (compResults P l).map ((t, none) :: ·)
  | .cell a t :: l => match aggOf P t, compResults P l with
    | some g, some r => some ((a, some g) :: r)
    | _, _ => none

def compFunc (P : Program) (fn : Func) : Option AFunc :=
  match fn.body with
  | none => none
  | some c =>
    if fn.name == "runtime.NumGoroutine" then none else
    match comp P c, compResults P fn.results.toList with
    | some b, some r => some { ntmps := fn.ntmps, results := r, body := b }
    | _, _ => none

/-! ### Runs -/

structure St where
  ts : List Value
  ds : List Deferred
  h : Heap
  /-- the loop over a function of which this is a round -/
  rd : Option Nat := none
  deriving Inhabited

inductive Out where
  | mk (e : Exit) (s : St)
  | bad

inductive Tgt where
  | fn (f : FuncId)
  | yield (l : Nat)

abbrev Caller := Tgt → List Value → Heap → List CO

def putT (ts : List Value) : Option Nat → Value → List Value
  | some d, v => lset ts d v
  | none, _ => ts

def wantedT (ts : List Value) : Option (Nat × Bool) → Bool
  | none => true
  | some (t, want) => match lget ts t with
    | .bool b => b == want
    | _ => false

/-- whom a call of a function value calls, and with what -/
def target (v : Value) (args : List Value) : Option (Option (Tgt × List Value)) :=
  match v with
  | .func (.func f) ⟨first⟩ ⟨captured⟩ => some (some (.fn f, first ++ args ++ captured))
  | .func (.yield l) ⟨[]⟩ ⟨[]⟩ => some (some (.yield l, args))
  | .nilFunc => some none
  | _ => none

/-- a method of an interface value, called -/
def methodOf (P : Program) (h : Heap) (t : TypeId) (v : Value) (name : String) : Option (FuncId × Value) :=
  match P.info? t with
  | none => none
  | some i => match i.methods.find? (·.name == name) with
    | none => none
    | some m =>
      if m.path.isEmpty then
        match m.func with
        | some (f, pr) => match P.underlying t, pr with
          | some (.pointer _), true => some (f, v)
          | some (.pointer el), false => match v, aggOf P el with
            | .pointer (some a), some (some n) => (cellsAt h a.block a.off n).map fun c => (f, .agg ⟨c⟩)
            | .pointer (some a), some none => match cellsAt h a.block a.off 1 with
              | some (u :: _) => some (f, u)
              | _ => none
            | _, _ => none
          | some _, false => some (f, v)
          | _, _ => none
        | none => none
      else none

/-- the choices at a map's next entry -/
def nextAt (h : Heap) : Value → Option (List (Value × Heap))
  | .pointer (some ⟨r, 0, none⟩) =>
    match h.get r with
    | .mapIter none _ _ _ => some [(.tuple #[.bool false], h)]
    | .mapIter (some m) since seen last =>
      match h.get m with
      | .map es clock =>
        if !seen.isEmpty && !es.isEmpty && es.all (fun en => decide (en.born ≥ last)) then none else
        let left := es.filter fun en => !seen.contains en.born
        let old := left.filter fun en => decide (en.born < since)
        let new := left.filter fun en => decide (en.born ≥ since)
        some ((if old.isEmpty then [(.tuple #[.bool false], h)] else []) ++
          (old ++ new).map fun en => (.tuple #[.bool true, en.key, en.val], h.set r (.mapIter (some m) since (seen ++ [en.born]) clock)))
      | _ => none
    | _ => none
  | _ => none

/-- One operation, calls among them: what it may answer. -/
def xo (P : Program) (call : Caller) (ts : List Value) (h : Heap) (op : AOp) : List CO :=
  match op with
  | .callV f args =>
    match target (eval ts f) (args.map (eval ts)) with
    | some (some (t, vs)) => call t vs h
    | some none => match nilDeref P h with
      | .pan v h' => [.pan [{ v, recovered := false }] h']
      | _ => [.bad]
    | none => [.bad]
  | .invoke r name args =>
    match eval ts r with
    | .iface t v => match methodOf P h t v name with
      | some (f, recv) => call (.fn f) (recv :: args.map (eval ts)) h
      | none => [.bad]
    | _ => [.bad]
  | .nextMap it =>
    match nextAt h (eval ts it) with
    | some l => l.map fun p => .ret p.1 p.2
    | none => [.bad]
  | _ =>
    match xop P (eval ts) h op with
    | .ok v h' => [.ret v h']
    | .pan v h' => [.pan [{ v, recovered := false }] h']
    | .bad => [.bad]

def deferOf (ts : List Value) : AOp → Option Deferred
  | .defer f args =>
    match eval ts f with
    | .func (.func f) ⟨first⟩ captured => some { target := .fn (.func f) captured, args := ⟨first ++ args.map (eval ts)⟩ }
    | _ => none
  | _ => none

def xops (P : Program) (call : Caller) : List AOper → St → List Out
  | [], s => [.mk .normal s]
  | o :: rest, s =>
    if wantedT s.ts o.guard then
      match o.op with
      | .defer f args => match deferOf s.ts (.defer f args) with
        | some d => xops P call rest { s with ds := d :: s.ds, ts := putT s.ts o.dst undef }
        | none => [.bad]
      | _ =>
        (xo P call s.ts s.h o.op).flatMap fun
          | .ret v h => xops P call rest { s with ts := putT s.ts o.dst v, h := h }
          | .pan chain h => [.mk (.panic chain) { s with h := h }]
          | .bad => [.bad]
    else xops P call rest { s with ts := putT s.ts o.dst undef }

/-- what an operation that is still to come would leave is there already -/
def stable (P : Program) (ts : List Value) (h : Heap) (x : Option Nat × AOp × Option (Nat × Bool)) : Bool :=
  if wantedT ts x.2.2 then
    match xop P (eval ts) h x.2.1 with
    | .ok v _ => match x.1 with
      | some d => veq v (lget ts d)
      | none => true
    | _ => false
  else match x.1 with
    | some d => veq undef (lget ts d)
    | none => true

def xopsD (P : Program) (call : Caller) : List AOper → St → List Out
  | [], s => [.mk .normal s]
  | o :: rest, s =>
    if wantedT s.ts o.guard then
      (xo P call s.ts s.h o.op).flatMap fun
        | .ret v h => if o.chk.all (stable P (putT s.ts o.dst v) h) then xopsD P call rest { s with ts := putT s.ts o.dst v, h := h } else [.bad]
        | .pan chain h => if o.pan then [.mk (.panic chain) { s with h := h }] else [.bad]
        | .bad => [.bad]
    else if o.chk.all (stable P (putT s.ts o.dst undef) s.h) then xopsD P call rest { s with ts := putT s.ts o.dst undef } else [.bad]

/-! A loop over a function. -/

/-- the heap as the loop's record is laid: ahead of it, outside of any round, the block for what rounds put off -/
def lapH (s : St) : Heap := match s.rd with
  | some _ => s.h
  | none => s.h.push (.defs false)

def lapS (s : St) : St := match s.rd with
  | some _ => s
  | none => { s with ds := { target := .collected s.h.n, args := #[] } :: s.ds }

def lapOK (s : St) : Bool := match s.rd with
  | some l => match s.h.get l with
    | .loop _ _ _ _ _ _ => true
    | _ => false
  | none => true

/-- how a loop over a function is left -/
def lapOut (l : Nat) (s : St) : CO → List Out
  | .ret _ h => match h.get l with
    | .loop st pend ts ps as b =>
      if st = .busy then [.bad] else match pend with
      | none => [.mk .normal { s with h := h.set l (.loop .exhausted pend ts ps as b) }]
      | some .ret => [.mk .ret { s with h := h.set l (.loop .exhausted pend ts ps as b) }]
      | some (.exit id) => [.mk (.exit id) { s with h := h.set l (.loop .exhausted pend ts ps as b) }]
      | some _ => [.bad]
    | _ => [.bad]
  | .pan chain h => [.mk (.panic chain) { s with h := h }]
  | .bad => [.bad]

def loopGo (body : St → List Out) : Nat → St → List Out
  | 0, _ => [.bad]
  | n + 1, s => (body s).flatMap fun
    | .mk .normal s' => loopGo body n s'
    | o => [o]

def xc (P : Program) (call : Caller) (L : Nat) : ACode → St → List Out
  | .skip, s => [.mk .normal s]
  | .seq a b, s => (xc P call L a s).flatMap fun
    | .mk .normal s' => xc P call L b s'
    | o => [o]
  | .cond c t e, s => match eval s.ts c with
    | .bool true => xc P call L t s
    | .bool false => xc P call L e s
    | _ => [.bad]
  | .block id b, s => (xc P call L b s).map fun
    | .mk (.exit j) s' => if j = id then .mk .normal s' else .mk (.exit j) s'
    | o => o
  | .loop b, s => loopGo (xc P call L b) L s
  | .exit id, s => [.mk (.exit id) s]
  | .ret, s => [.mk .ret s]
  | .region ops, s => xops P call ops s
  | .regionD ops, s => xopsD P call ops s
  | .scope b, s => xc P call L b s
  | .stuck, _ => [.bad]
  | .rangeFunc f ps as b, s => if lapOK s = false then [.bad] else match eval s.ts f with
    | .func (.func fid) ⟨first⟩ ⟨captured⟩ =>
      (call (.fn fid) (first ++ [.func (.yield (lapH s).n) #[] #[]] ++ captured) ((lapH s).push (.loop .ready none s.ts ps as b))).flatMap (lapOut (lapH s).n (lapS s))
    | _ => [.bad]

/-! A deferred function, which may recover. -/

structure StS where
  s : St
  up : FrameMode

inductive OutS where
  | mk (e : Exit) (s : StS)
  | bad

def recovered : FrameMode → Value × FrameMode
  | .panicking ({ v, recovered := false, goexit := false } :: older) => (v, .panicking ({ v, recovered := true } :: older))
  | u => (.nilIface, u)

def xopsS (P : Program) (call : Caller) : List AOper → StS → List OutS
  | [], s => [.mk .normal s]
  | o :: rest, s =>
    if wantedT s.s.ts o.guard then
      match o.op with
      | .recover => xopsS P call rest { s := { s.s with ts := putT s.s.ts o.dst (recovered s.up).1 }, up := (recovered s.up).2 }
      | .defer _ _ => [.bad]
      | _ =>
        (xo P call s.s.ts s.s.h o.op).flatMap fun
          | .ret v h => xopsS P call rest { s with s := { s.s with ts := putT s.s.ts o.dst v, h := h } }
          | .pan chain h => [.mk (.panic chain) { s with s := { s.s with h := h } }]
          | .bad => [.bad]
    else xopsS P call rest { s with s := { s.s with ts := putT s.s.ts o.dst undef } }

def liftS (up : FrameMode) : Out → OutS
  | .mk e s => .mk e { s, up }
  | .bad => .bad

def xcS (P : Program) (call : Caller) : ACode → StS → List OutS
  | .skip, s => [.mk .normal s]
  | .ret, s => [.mk .ret s]
  | .seq a b, s => (xcS P call a s).flatMap fun
    | .mk .normal s' => xcS P call b s'
    | o => [o]
  | .cond c t e, s => match eval s.s.ts c with
    | .bool true => xcS P call t s
    | .bool false => xcS P call e s
    | _ => [.bad]
  | .region ops, s => xopsS P call ops s
  | .regionD ops, s => (xopsD P call ops s.s).map (liftS s.up)
  | _, _ => [.bad]

def resVals (h : Heap) (ts : List Value) : List (Nat × Option (Option Nat)) → Option (List Value)
  | [] => some []
  | (t, none) :: r => (resVals h ts r).map (lget ts t :: ·)
  | (t, some g) :: r =>
    match lget ts t, resVals h ts r with
    | .pointer (some a), some l =>
      match g with
      | some n => (cellsAt h a.block a.off n).map fun c => .agg ⟨c⟩ :: l
      | none => match cellsAt h a.block a.off 1 with
        | some (v :: _) => some (v :: l)
        | _ => none
    | _, _ => none

def resOf (h : Heap) (ts : List Value) (rs : List (Nat × Option (Option Nat))) : Option Value :=
  match resVals h ts rs with
  | some [v] => some v
  | some l => some (.tuple ⟨l⟩)
  | none => none

def pad (args : List Value) (n : Nat) : List Value := args ++ List.replicate (n - args.length) undef

inductive DO where
  | ret (u : FrameMode) (h : Heap)
  | pan (chain : List PanicEntry) (u : FrameMode) (h : Heap)
  | bad

abbrev Table := FuncId → Option AFunc

/-- where no round is run -/
def noY (call : Caller) : Caller
  | .yield _, _, _ => [.bad]
  | .fn f, args, h => call (.fn f) args h

/-- a deferred call -/
def xdefer (P : Program) (T : Table) (call : Caller) (f : FuncId) (args : List Value) (u : FrameMode) (h : Heap) : List DO :=
  match T f with
  | none => [.bad]
  | some af =>
    if af.prim.isSome = true then [.bad] else
    (xcS P (noY call) af.body { s := { ts := pad args af.ntmps, ds := [], h }, up := u }).map fun
      | .mk .normal s | .mk .ret s => match s.s.ds, resOf s.s.h s.s.ts af.results with
        | [], some _ => .ret s.up s.s.h
        | _, _ => .bad
      | .mk (.panic chain) s => match s.s.ds with
        | [] => .pan chain s.up s.s.h
        | _ => .bad
      | _ => .bad

def leave (P : Program) (T : Table) (call : Caller) (rs : List (Nat × Option (Option Nat))) (ts : List Value) : List Deferred → FrameMode → Heap → List CO
  | [], .returning, h => match resOf h ts rs with
    | some v => [.ret v h]
    | none => [.bad]
  | [], .panicking chain, h => [.pan chain h]
  | [], .run, _ => [.bad]
  | d :: ds, u, h =>
    match u, d.target with
    | .run, _ => [.bad]
    | _, .fn (.func f) ⟨captured⟩ =>
      (xdefer P T call f (d.args.toList ++ captured) u h).flatMap fun
        | .ret u' h' => leave P T call rs ts ds (settle u') h'
        | .pan chain u' h' => leave P T call rs ts ds (raised u' chain) h'
        | .bad => [.bad]
    | _, .collected r => match h.get r with
      | .defs false => leave P T call rs ts ds u (h.set r (.defs true))
      | _ => [.bad]
    | _, _ => [.bad]

def xfun (P : Program) (T : Table) (call : Caller) (L : Nat) (af : AFunc) (args : List Value) (h : Heap) : List CO :=
  (xc P call L af.body { ts := pad args af.ntmps, ds := [], h }).flatMap fun
    | .mk .normal s | .mk .ret s => leave P T call af.results s.ts s.ds .returning s.h
    | .mk (.panic chain) s => leave P T call af.results s.ts s.ds (.panicking chain) s.h
    | _ => [.bad]

/-- how a round ends -/
def endR (l : Nat) (jump : Option Code) (h : Heap) : CO :=
  match h.get l with
  | .loop _ _ ts ps as b => .ret (.bool jump.isNone) (h.set l (.loop (if jump.isNone then .ready else .done) jump ts ps as b))
  | _ => .bad

def roundOut (l : Nat) : Out → CO
  | .mk .normal s => endR l none s.h
  | .mk .ret s => endR l (some .ret) s.h
  | .mk (.exit id) s => endR l (some (.exit id)) s.h
  | _ => .bad

def bodyOut (P : Program) (call : Caller) (L l : Nat) (b' : ACode) : Out → List CO
  | .mk .normal s => match s.h.get l with
    | .loop .ready pend ts ps as b => (xc P call L b' { s with h := s.h.set l (.loop .busy pend ts ps as b) }).map (roundOut l)
    | _ => [.bad]
  | _ => [.bad]

def putAll (ts : List Value) (ps : List Nat) (args : List Value) : List Value := (ps.zip args).foldl (fun ts p => lset ts p.1 p.2) ts

/-- one round -/
def xround (P : Program) (call : Caller) (L l : Nat) (args : List Value) (h : Heap) : List CO :=
  match h.get l with
  | .loop _ _ ts ps as b =>
    if args.length = ps.length ∧ noDefer as = true ∧ noDefer b = true then
      match comp P as, comp P b with
      | some as', some b' => (xc P call L as' { ts := putAll ts ps args, ds := [], h, rd := some l }).flatMap (bodyOut P call L l b')
      | _, _ => [.bad]
    else [.bad]
  | _ => [.bad]

def xcall (P : Program) (T : Table) (L : Nat) : Nat → Caller
  | 0, _, _, _ => [.bad]
  | n + 1, .fn f, args, h =>
    match T f with
    | some af => match af.prim with
      | some p => p args h
      | none => xfun P T (xcall P T L n) L af args h
    | none => [.bad]
  | n + 1, .yield l, args, h => xround P (xcall P T L n) L l args h

end Go.Vm
