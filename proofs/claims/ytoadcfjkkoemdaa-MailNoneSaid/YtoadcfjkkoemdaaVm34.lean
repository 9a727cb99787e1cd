/- A small machine over an abstract heap: operations, one rule each. -/
import Derived.Test.YtoadcfjkkoemdaaVm33
set_option linter.unusedSimpArgs false
set_option linter.unusedVariables false
namespace Go.Vm

def AOp.plain : AOp → Bool
  | .callV _ _ | .invoke _ _ _ | .nextMap _ | .defer _ _ | .recover => false
  | _ => true

theorem xo_plain {P : Program} {call : Caller} {ts : List Value} {h : Heap} {op : AOp} (hp : op.plain = true) : xo P call ts h op = match xop P (eval ts) h op with
    | .ok v h' => [.ret v h']
    | .pan v h' => [.pan [{ v, recovered := false }] h']
    | .bad => [.bad] := by
  cases op <;> first | rfl | cases hp

/-- an operation that answers a value -/
class XOp (P : Program) (ts : List Value) (h : Heap) (op : AOp) (v : outParam Value) (h' : outParam Heap) : Prop where
  plain : op.plain = true
  eq : xop P (eval ts) h op = .ok v h'

section
variable {P : Program} {ts : List Value} {h h' : Heap} {op : AOp} {v : Value}

theorem XOp.run [k : XOp P ts h op v h'] (call : Caller) : xo P call ts h op = [.ret v h'] := by rw [xo_plain k.plain, k.eq]
theorem XOp.nd [k : XOp P ts h op v h'] : ∀ f a, op ≠ .defer f a := fun f a e => by have := k.plain; rw [e] at this; cases this
theorem XOp.nr [k : XOp P ts h op v h'] : op ≠ .recover := fun e => by have := k.plain; rw [e] at this; cases this
end

/-- a number that is one of its kind -/
class InR (k : IntKind) (n : Int) : Prop where
  eq : k.wrap n = n
class NZ (n : Nat) : Prop where
  ne : n ≠ 0
instance {n : Nat} : NZ (n + 1) := ⟨by omega⟩
class AddN (a b : Nat) (c : outParam Nat) : Prop where
  eq : a + b = c
instance (priority := high) {b : Nat} : AddN 0 b b := ⟨by simp⟩
instance (priority := high) {b : Nat} : AddN b 0 b := ⟨by simp⟩
instance {a b : Nat} : AddN a b (a + b) := ⟨rfl⟩
/-- an index's place -/
class IdxOff (o : Nat) (n : Int) (size : Nat) (out : outParam Nat) : Prop where
  eq : o + n.toNat * size = out
instance (priority := low) {o s : Nat} {n : Int} : IdxOff o n s (o + n.toNat * s) := ⟨rfl⟩
instance {o s j : Nat} : IdxOff o (j : Int) s (o + j * s) := ⟨by simp⟩
instance {o j : Nat} : IdxOff o (j : Int) 1 (o + j) := ⟨by simp⟩
instance {o : Nat} : IdxOff o 0 1 (o + 0) := ⟨rfl⟩
instance (priority := high) : IdxOff 0 0 1 0 := ⟨rfl⟩
instance {o : Nat} : IdxOff o 1 1 (o + 1) := ⟨rfl⟩
instance (priority := high) : IdxOff 0 1 1 1 := ⟨rfl⟩
instance {o : Nat} : IdxOff o 2 1 (o + 2) := ⟨rfl⟩
instance (priority := high) : IdxOff 0 2 1 2 := ⟨rfl⟩
instance {o : Nat} : IdxOff o 3 1 (o + 3) := ⟨rfl⟩
instance (priority := high) : IdxOff 0 3 1 3 := ⟨rfl⟩
instance {o : Nat} : IdxOff o 4 1 (o + 4) := ⟨rfl⟩
instance (priority := high) : IdxOff 0 4 1 4 := ⟨rfl⟩
instance {o : Nat} : IdxOff o 5 1 (o + 5) := ⟨rfl⟩
instance (priority := high) : IdxOff 0 5 1 5 := ⟨rfl⟩
instance {o : Nat} : IdxOff o 6 1 (o + 6) := ⟨rfl⟩
instance (priority := high) : IdxOff 0 6 1 6 := ⟨rfl⟩
instance {o : Nat} : IdxOff o 7 1 (o + 7) := ⟨rfl⟩
instance (priority := high) : IdxOff 0 7 1 7 := ⟨rfl⟩
instance {o : Nat} : IdxOff o 8 1 (o + 8) := ⟨rfl⟩
instance (priority := high) : IdxOff 0 8 1 8 := ⟨rfl⟩
instance {o : Nat} : IdxOff o 9 1 (o + 9) := ⟨rfl⟩
instance (priority := high) : IdxOff 0 9 1 9 := ⟨rfl⟩
instance {o : Nat} : IdxOff o 10 1 (o + 10) := ⟨rfl⟩
instance (priority := high) : IdxOff 0 10 1 10 := ⟨rfl⟩
instance {o : Nat} : IdxOff o 11 1 (o + 11) := ⟨rfl⟩
instance (priority := high) : IdxOff 0 11 1 11 := ⟨rfl⟩
instance {o : Nat} : IdxOff o 12 1 (o + 12) := ⟨rfl⟩
instance (priority := high) : IdxOff 0 12 1 12 := ⟨rfl⟩
instance {o : Nat} : IdxOff o 13 1 (o + 13) := ⟨rfl⟩
instance (priority := high) : IdxOff 0 13 1 13 := ⟨rfl⟩
instance {o : Nat} : IdxOff o 14 1 (o + 14) := ⟨rfl⟩
instance (priority := high) : IdxOff 0 14 1 14 := ⟨rfl⟩
instance {o : Nat} : IdxOff o 15 1 (o + 15) := ⟨rfl⟩
instance (priority := high) : IdxOff 0 15 1 15 := ⟨rfl⟩
instance {s j : Nat} : IdxOff 0 (j : Int) s (j * s) := ⟨by simp⟩
instance (priority := high) {j : Nat} : IdxOff 0 (j : Int) 1 j := ⟨by simp⟩
class LenN (l : List Value) (n : Nat) : Prop where
  eq : l.length = n
instance : LenN [] 0 := ⟨rfl⟩
instance {v : Value} {l : List Value} {n : Nat} [h : LenN l n] : LenN (v :: l) (n + 1) := ⟨by simp [h.eq]⟩
instance (priority := high) {l : List Value} [h : L32 l] : LenN l 32 := ⟨h.eq⟩
instance (priority := high) {l : List Value} [h : L4 l] : LenN l 4 := ⟨h.eq⟩
instance {p l : List Value} {n : Nat} [h : L32 p] [k : LenN l n] : LenN (p ++ l) (n + 32) := ⟨by simp [h.eq, k.eq]; omega⟩
instance {p l : List Value} {n : Nat} [h : L4 p] [k : LenN l n] : LenN (p ++ l) (n + 4) := ⟨by simp [h.eq, k.eq]; omega⟩

/-- Go's == that needs no look at memory -/
class EqV (h : Heap) (kind : EqKind) (x y : Value) (r : outParam Bool) : Prop where
  eq : eqv h kind x y = some r
section
variable {h : Heap}
instance : EqV h .ptr (.pointer none) (.pointer none) true := ⟨rfl⟩
instance {a : Addr} : EqV h .ptr (.pointer none) (.pointer (some a)) false := ⟨rfl⟩
instance {a : Addr} : EqV h .ptr (.pointer (some a)) (.pointer none) false := ⟨rfl⟩
instance {a b c d : Nat} : EqV h .slice (.slice none a b) (.slice none c d) true := ⟨rfl⟩
instance {a b c d : Nat} {x : Addr} : EqV h .slice (.slice (some x) a b) (.slice none c d) false := ⟨rfl⟩
instance {a b c d : Nat} {x : Addr} : EqV h .slice (.slice none a b) (.slice (some x) c d) false := ⟨rfl⟩
instance : EqV h .map (.map none) (.map none) true := ⟨rfl⟩
instance {a : Nat} : EqV h .map (.map none) (.map (some a)) false := ⟨rfl⟩
instance {a : Nat} : EqV h .map (.map (some a)) (.map none) false := ⟨rfl⟩
instance : EqV h .func .nilFunc .nilFunc true := ⟨rfl⟩
instance {f : Fn} {a b : Array Value} : EqV h .func (.func f a b) .nilFunc false := ⟨rfl⟩
instance {f : Fn} {a b : Array Value} : EqV h .func .nilFunc (.func f a b) false := ⟨rfl⟩
instance {t : TypeId} {v : Value} : EqV h .iface .nilIface (.iface t v) false := ⟨rfl⟩
instance {t : TypeId} {v : Value} : EqV h .iface (.iface t v) .nilIface false := ⟨rfl⟩
end

section
variable {P : Program} {ts : List Value} {h h' : Heap} {x y a b c i : Operand} {u v w : Value} {l l' out : List Value} {o n k size len r off m : Nat} {sp : Option Nat} {K J : IntKind} {p q : Int} {O : Oper} {A B : Bool}

instance XOp.mov [e : Ev ts x v] : XOp P ts h (.mov x) v h := ⟨rfl, by simp only [xop, e.eq]⟩
instance XOp.pickT [e : Ev ts c (.bool true)] [e1 : Ev ts a v] : XOp P ts h (.pick c a b) v h := ⟨rfl, by simp only [xop, e.eq, e1.eq, if_true]⟩
instance XOp.pickF [e : Ev ts c (.bool false)] [e1 : Ev ts b v] : XOp P ts h (.pick c a b) v h := ⟨rfl, by simp only [xop, e.eq, e1.eq]; rfl⟩
instance (priority := low) XOp.pick [e : Ev ts c (.bool A)] [e1 : Ev ts a u] [e2 : Ev ts b v] : XOp P ts h (.pick c a b) (if A then u else v) h := ⟨rfl, by simp only [xop, e.eq, e1.eq, e2.eq]⟩
instance XOp.alloc {t : TypeId} : XOp P ts h (.alloc t l) (.pointer (some ⟨h.n, 0, none⟩)) (h.push (.cells l 0)) := ⟨rfl, rfl⟩
instance XOp.box {t : TypeId} [e : Ev ts x v] [k : CellsOf v l] : XOp P ts h (.box t x) (.pointer (some ⟨h.n, 0, none⟩)) (h.push (.cells l 0)) := ⟨rfl, by simp only [xop, e.eq, k.eq]⟩
instance XOp.load1 [e : Ev ts x (.pointer (some ⟨r, o, sp⟩))] [k : Cell h r o v] : XOp P ts h (.load none x) v h := ⟨rfl, by simp only [xop, e.eq, k.eq]⟩
instance XOp.loadN [e : Ev ts x (.pointer (some ⟨r, o, sp⟩))] [k : Cells h r o n l] : XOp P ts h (.load (some n) x) (.agg ⟨l⟩) h := ⟨rfl, by simp only [xop, e.eq, k.eq]⟩
instance XOp.store [e : Ev ts a (.pointer (some ⟨r, o, sp⟩))] [f : Ev ts x v] [k : CellsOf v l] [j : LenN l n] [t : Put h r o l h'] : XOp P ts h (.store n a x) undef h' := ⟨rfl, by
  simp only [xop, e.eq, f.eq, k.eq, k.len, j.eq, t.eq, if_true]⟩
instance XOp.nilPtr {d : Addr} [e : Ev ts x (.pointer (some d))] : XOp P ts h (.nilCheck x) (.pointer (some d)) h := ⟨rfl, by simp only [xop, e.eq]⟩
instance XOp.nilFn {f : FuncId} {d g : Array Value} [e : Ev ts x (.func (.func f) d g)] : XOp P ts h (.nilCheck x) (.func (.func f) d g) h := ⟨rfl, by simp only [xop, e.eq]⟩
instance XOp.nilIf {t : TypeId} [e : Ev ts x (.iface t v)] : XOp P ts h (.nilCheck x) (.iface t v) h := ⟨rfl, by simp only [xop, e.eq]⟩

/-! numbers -/
theorem xop_bin {op : BinOp} (e1 : eval ts x = .int K p) (e2 : eval ts y = .int K q) (hb : binInt op K p q = some v) : xop P (eval ts) h (.bin op O x y) = .ok v h := by
  simp only [xop, binOpV, e1, e2, hb, if_true]
instance (priority := high) XOp.addIn [e1 : Ev ts x (.int K p)] [e2 : Ev ts y (.int K q)] [j : InR K (p + q)] : XOp P ts h (.bin .add O x y) (.int K (p + q)) h := ⟨rfl, xop_bin e1.eq e2.eq (by simp only [binInt, j.eq])⟩
instance (priority := high) XOp.subIn [e1 : Ev ts x (.int K p)] [e2 : Ev ts y (.int K q)] [j : InR K (p - q)] : XOp P ts h (.bin .sub O x y) (.int K (p - q)) h := ⟨rfl, xop_bin e1.eq e2.eq (by simp only [binInt, j.eq])⟩
instance (priority := high) XOp.mulIn [e1 : Ev ts x (.int K p)] [e2 : Ev ts y (.int K q)] [j : InR K (p * q)] : XOp P ts h (.bin .mul O x y) (.int K (p * q)) h := ⟨rfl, xop_bin e1.eq e2.eq (by simp only [binInt, j.eq])⟩
instance XOp.add [e1 : Ev ts x (.int K p)] [e2 : Ev ts y (.int K q)] : XOp P ts h (.bin .add O x y) (.int K (K.wrap (p + q))) h := ⟨rfl, xop_bin e1.eq e2.eq rfl⟩
instance XOp.sub [e1 : Ev ts x (.int K p)] [e2 : Ev ts y (.int K q)] : XOp P ts h (.bin .sub O x y) (.int K (K.wrap (p - q))) h := ⟨rfl, xop_bin e1.eq e2.eq rfl⟩
instance XOp.mul [e1 : Ev ts x (.int K p)] [e2 : Ev ts y (.int K q)] : XOp P ts h (.bin .mul O x y) (.int K (K.wrap (p * q))) h := ⟨rfl, xop_bin e1.eq e2.eq rfl⟩
instance XOp.eqlI [e1 : Ev ts x (.int K p)] [e2 : Ev ts y (.int K q)] : XOp P ts h (.bin .eql O x y) (.bool (decide (p = q))) h := ⟨rfl, xop_bin e1.eq e2.eq (by simp only [binInt]; rfl)⟩
instance XOp.neqI [e1 : Ev ts x (.int K p)] [e2 : Ev ts y (.int K q)] : XOp P ts h (.bin .neq O x y) (.bool (!decide (p = q))) h := ⟨rfl, xop_bin e1.eq e2.eq (by simp only [binInt]; rfl)⟩
instance XOp.lssI [e1 : Ev ts x (.int K p)] [e2 : Ev ts y (.int K q)] : XOp P ts h (.bin .lss O x y) (.bool (decide (p < q))) h := ⟨rfl, xop_bin e1.eq e2.eq rfl⟩
instance XOp.leqI [e1 : Ev ts x (.int K p)] [e2 : Ev ts y (.int K q)] : XOp P ts h (.bin .leq O x y) (.bool (decide (p ≤ q))) h := ⟨rfl, xop_bin e1.eq e2.eq rfl⟩
instance XOp.gtrI [e1 : Ev ts x (.int K p)] [e2 : Ev ts y (.int K q)] : XOp P ts h (.bin .gtr O x y) (.bool (decide (q < p))) h := ⟨rfl, xop_bin e1.eq e2.eq rfl⟩
instance XOp.geqI [e1 : Ev ts x (.int K p)] [e2 : Ev ts y (.int K q)] : XOp P ts h (.bin .geq O x y) (.bool (decide (q ≤ p))) h := ⟨rfl, xop_bin e1.eq e2.eq rfl⟩
instance (priority := high) XOp.convIn [e : Ev ts x (.int J p)] [j : InR K p] : XOp P ts h (.conv K O x) (.int K p) h := ⟨rfl, by simp only [xop, e.eq, j.eq]⟩
instance XOp.conv [e : Ev ts x (.int J p)] : XOp P ts h (.conv K O x) (.int K (K.wrap p)) h := ⟨rfl, by simp only [xop, e.eq]⟩

instance XOp.eqlR {kind : EqKind} [e1 : Ev ts x u] [e2 : Ev ts y v] [j : EqV h kind u v A] : XOp P ts h (.eq kind false O x y) (.bool A) h := ⟨rfl, by simp only [xop, eqOpV, e1.eq, e2.eq, j.eq]; cases A <;> rfl⟩
instance XOp.neqR {kind : EqKind} [e1 : Ev ts x u] [e2 : Ev ts y v] [j : EqV h kind u v A] : XOp P ts h (.eq kind true O x y) (.bool (!A)) h := ⟨rfl, by simp only [xop, eqOpV, e1.eq, e2.eq, j.eq]; cases A <;> rfl⟩

/-! addresses -/
instance XOp.fieldAddr0 {d : Addr} [e : Ev ts x (.pointer (some d))] : XOp P ts h (.fieldAddr 0 x) (.pointer (some d)) h := ⟨rfl, by simp only [xop, e.eq, if_true]⟩
instance XOp.fieldAddr [z : NZ off] [e : Ev ts x (.pointer (some ⟨r, o, sp⟩))] [j : AddN o off m] : XOp P ts h (.fieldAddr off x) (.pointer (some ⟨r, m, none⟩)) h := ⟨rfl, by
  simp only [xop, e.eq]; rw [if_neg z.ne, j.eq]⟩

/-! aggregates -/
instance XOp.field1 [e : Ev ts x (.agg ⟨l⟩)] [k : CGet l off v] : XOp P ts h (.field none off x) v h := ⟨rfl, by simp only [xop, e.eq, k.lt, k.eq, if_true]⟩
instance XOp.fieldN [e : Ev ts x (.agg ⟨l⟩)] [k : Sub l off n out] : XOp P ts h (.field (some n) off x) (.agg ⟨out⟩) h := ⟨rfl, by simp only [xop, e.eq, k.le, k.eq, if_true]⟩
instance XOp.extract [e : Ev ts x (.tuple ⟨l⟩)] [k : CGet l off v] : XOp P ts h (.extract off x) v h := ⟨rfl, by simp only [xop, e.eq, k.lt, k.eq, if_true]⟩
instance XOp.mkIface {t : TypeId} [e : Ev ts x v] : XOp P ts h (.mkIface t x) (.iface t v) h := ⟨rfl, by simp only [xop, e.eq]⟩
instance XOp.mkFunc {f : Fn} {xs ys : List Operand} [e : EvL ts xs l] [k : EvL ts ys l'] : XOp P ts h (.mkFunc f xs ys) (.func f ⟨l⟩ ⟨l'⟩) h := ⟨rfl, by simp only [xop, e.eq, k.eq]⟩
instance XOp.assert1 {t : TypeId} {z : Value} [e : Ev ts x (.iface t v)] : XOp P ts h (.assertTo t z false x) v h := ⟨rfl, by simp only [xop, e.eq, if_true]; rfl⟩
instance XOp.assert2 {t : TypeId} {z : Value} [e : Ev ts x (.iface t v)] : XOp P ts h (.assertTo t z true x) (.tuple ⟨[v, .bool true]⟩) h := ⟨rfl, by simp only [xop, e.eq, if_true]⟩
instance XOp.assertNil {t : TypeId} {z : Value} [e : Ev ts x .nilIface] : XOp P ts h (.assertTo t z true x) (.tuple ⟨[z, .bool false]⟩) h := ⟨rfl, by simp only [xop, e.eq, if_true]⟩

/-! parts that are put together -/
class EvP (ts : List Value) (ps : List (Nat × Nat × Operand)) (out : outParam (List (Nat × Nat × Value))) : Prop where
  eq : ps.map (fun p => (p.1, p.2.1, eval ts p.2.2)) = out
instance : EvP ts [] [] := ⟨rfl⟩
instance {ps : List (Nat × Nat × Operand)} {out : List (Nat × Nat × Value)} [e : Ev ts x v] [k : EvP ts ps out] : EvP ts ((o, n, x) :: ps) ((o, n, v) :: out) := ⟨by rw [List.map_cons, k.eq]; simp only [e.eq]⟩
class Fill (z : List Value) (ps : List (Nat × Nat × Value)) (out : outParam (List Value)) : Prop where
  eq : fillL z ps = some out
instance : Fill l [] l := ⟨rfl⟩
instance {z z' : List Value} {ps : List (Nat × Nat × Value)} [k : CellsOf v l] [j : LenN l n] [t : Over z o l z'] [f : Fill z' ps out] : Fill z ((o, n, v) :: ps) out := ⟨by
  simp only [fillL]
  rw [if_pos ⟨by rw [k.len, j.eq], by have := t.le; rw [j.eq] at this; exact this⟩, k.eq, t.eq, f.eq]⟩
instance XOp.build {z : List Value} {ps : List (Nat × Nat × Operand)} {vs : List (Nat × Nat × Value)} [e : EvP ts ps vs] [k : Fill z vs out] : XOp P ts h (.build z ps) (.agg ⟨out⟩) h := ⟨rfl, by simp only [xop, e.eq, k.eq]⟩
instance XOp.buildSlice {t : TypeId} {z : List Value} {ps : List (Nat × Nat × Operand)} {vs : List (Nat × Nat × Value)} [e : EvP ts ps vs] [k : Fill z vs out] :
    XOp P ts h (.buildSlice t z len ps) (.slice (some ⟨h.n, 0, none⟩) len len) (h.push (.cells out 0)) := ⟨rfl, by simp only [xop, e.eq, k.eq]⟩

/-! lengths -/
instance XOp.lenStr {s : ByteArray} [e : Ev ts x (.string s)] : XOp P ts h (.lenStr x) (.int .i64 s.size) h := ⟨rfl, by simp only [xop, e.eq]⟩
instance XOp.lenSl {d : Option Addr} [e : Ev ts x (.slice d n m)] : XOp P ts h (.lenSl x) (.int .i64 n) h := ⟨rfl, by simp only [xop, e.eq]⟩
instance XOp.lenArr : XOp P ts h (.lenArr n) (.int .i64 n) h := ⟨rfl, rfl⟩
instance XOp.lenMap0 [e : Ev ts x (.map none)] : XOp P ts h (.lenMap x) (.int .i64 0) h := ⟨rfl, by simp only [xop, e.eq, mapAt]⟩
instance XOp.lenMap {es : List MapEntry} {clock : Nat} [e : Ev ts x (.map (some r))] [g : HGet h r (.map es clock)] : XOp P ts h (.lenMap x) (.int .i64 es.length) h := ⟨rfl, by simp only [xop, e.eq, mapAt, g.eq]⟩
instance XOp.cap0 [e : Ev ts x (.slice none n m)] : XOp P ts h (.cap x) (.int .i64 m) h := ⟨rfl, by simp only [xop, e.eq]⟩
instance XOp.cap [e : Ev ts x (.slice (some ⟨r, o, none⟩) n m)] : XOp P ts h (.cap x) (.int .i64 m) h := ⟨rfl, by simp only [xop, e.eq]⟩
instance XOp.mkMap : XOp P ts h .mkMap (.map (some h.n)) (h.push (.map [] 0)) := ⟨rfl, rfl⟩
instance XOp.rangeMap0 [e : Ev ts x (.map none)] : XOp P ts h (.rangeMap x) (.pointer (some ⟨h.n, 0, none⟩)) (h.push (.mapIter none 0 [] 0)) := ⟨rfl, by simp only [xop, e.eq, mapAt]⟩
instance XOp.rangeMap {es : List MapEntry} {clock : Nat} [e : Ev ts x (.map (some r))] [g : HGet h r (.map es clock)] : XOp P ts h (.rangeMap x) (.pointer (some ⟨h.n, 0, none⟩)) (h.push (.mapIter (some r) clock [] clock)) := ⟨rfl, by simp only [xop, e.eq, mapAt, g.eq]⟩
instance XOp.rangeStr {s : ByteArray} [e : Ev ts x (.string s)] : XOp P ts h (.rangeStr x) (.pointer (some ⟨h.n, 0, none⟩)) (h.push (.strIter s 0)) := ⟨rfl, by simp only [xop, e.eq]⟩

/-! bytes -/
def bcells (l : List UInt8) : List Value := l.map fun b => .int .u8 b.toNat
theorem ofBytes_eq (s : ByteArray) : ofBytes s = bcells s.data.toList := rfl
theorem bytesOf_bcells : ∀ l : List UInt8, bytesOf (bcells l) = some l
  | [] => rfl
  | b :: l => by
    show (bytesOf (bcells l)).map _ = _
    rw [bytesOf_bcells l]; simp
class BytesOf (c : List Value) (l : outParam (List UInt8)) : Prop where
  eq : bytesOf c = some l
instance {l : List UInt8} : BytesOf (bcells l) l := ⟨bytesOf_bcells l⟩
instance : BytesOf [] [] := ⟨rfl⟩
theorem bytesOf_append : ∀ {c d : List Value} {l m : List UInt8}, bytesOf c = some l → bytesOf d = some m → bytesOf (c ++ d) = some (l ++ m)
  | [], d, l, m, h, k => by cases h; simpa using k
  | v :: c, d, l, m, h, k => by
    cases v with
    | int kk n =>
      cases kk with
      | u8 =>
        simp only [bytesOf] at h
        obtain ⟨l', h1, rfl⟩ := Option.map_eq_some_iff.1 h
        simp only [List.cons_append, bytesOf, bytesOf_append h1 k, Option.map_some]
      | _ => simp [bytesOf] at h
    | _ => simp [bytesOf] at h
instance {c d : List Value} {l m : List UInt8} [h : BytesOf c l] [k : BytesOf d m] : BytesOf (c ++ d) (l ++ m) := ⟨bytesOf_append h.eq k.eq⟩
instance {p : Int} {d : List Value} {m : List UInt8} [k : BytesOf d m] : BytesOf (.int .u8 p :: d) (UInt8.ofNat p.toNat :: m) := ⟨by simp only [bytesOf, k.eq, Option.map_some]⟩
instance XOp.bytesToStr0 [e : Ev ts x (.slice none n m)] : XOp P ts h (.bytesToStr x) (.string .empty) h := ⟨rfl, by simp only [xop, e.eq]⟩
instance XOp.bytesToStr {bs : List UInt8} [e : Ev ts x (.slice (some ⟨r, o, sp⟩) n m)] [k : Cells h r o n l] [j : BytesOf l bs] : XOp P ts h (.bytesToStr x) (.string ⟨⟨bs⟩⟩) h := ⟨rfl, by
  simp only [xop, e.eq, k.eq, Option.bind_some, j.eq]⟩
instance XOp.strToBytes {t : TypeId} {s : ByteArray} [e : Ev ts x (.string s)] : XOp P ts h (.strToBytes t x) (.slice (some ⟨h.n, 0, some 1⟩) s.size s.size) (h.push (.cells (bcells s.data.toList) 1)) := ⟨rfl, by
  simp only [xop, e.eq, ofBytes_eq]⟩

end

/-! ### Operations with a condition -/

section
variable {P : Program} {ts : List Value} {h h' : Heap} {x y a b c i : Operand} {u v w : Value} {l l' out : List Value} {o n k size len r off m : Nat} {sp : Option Nat} {K J : IntKind} {p q : Int} {O : Oper} {A B : Bool}

theorem idx_in {len : Nat} {K : IntKind} {p : Int} (hb : 0 ≤ p ∧ p < len) : idx len (.int K p) = some p.toNat := by simp only [idx, if_pos hb]

theorem XOp.mkIndexArr (hb : 0 ≤ p ∧ p < len) [e : Ev ts x (.pointer (some ⟨r, o, sp⟩))] [f : Ev ts i (.int K p)] [j : IdxOff o p size m] : XOp P ts h (.indexArr len size x i) (.pointer (some ⟨r, m, none⟩)) h := ⟨rfl, by
  simp only [xop, e.eq, f.eq, idx_in hb, j.eq]⟩
theorem XOp.mkIndexSl (hb : 0 ≤ p ∧ p < len) [e : Ev ts x (.slice (some ⟨r, o, sp⟩) len n)] [f : Ev ts i (.int K p)] [j : IdxOff o p size m] : XOp P ts h (.indexSl size x i) (.pointer (some ⟨r, m, none⟩)) h := ⟨rfl, by
  simp only [xop, e.eq, f.eq, idx_in hb, j.eq]⟩
end

/-- a byte's cell -/
theorem bcells_get {l : List UInt8} {k : Nat} (hk : k < l.length) : CGet (bcells l) k (.int .u8 (l.getD k 0).toNat) := by
  refine ⟨?_, by simpa [bcells] using hk⟩
  induction l generalizing k with
  | nil => simp at hk
  | cons a l ih =>
    cases k with
    | zero => rfl
    | succ k => exact ih (by simpa using hk)

/-! ### Tables that are written out -/

inductive TT where
  | nil
  | node (l : TT) (k : Nat) (v : AFunc) (r : TT)

def TT.get : TT → Nat → Option AFunc
  | .nil, _ => none
  | .node l k v r, f => if f < k then l.get f else if k < f then r.get f else some v

def TT.All (P : Program) : TT → Prop
  | .nil => True
  | .node l k v r => tableOf P k = some v ∧ l.All P ∧ r.All P

theorem TT.get_ok {P : Program} : ∀ {t : TT}, t.All P → ∀ {f : Nat} {v : AFunc}, t.get f = some v → tableOf P f = some v
  | .nil, _, f, v, h => by cases h
  | .node l k w r, ha, f, v, h => by
    simp only [TT.get] at h
    split at h
    · exact TT.get_ok ha.2.1 h
    · split at h
      · exact TT.get_ok ha.2.2 h
      · cases h
        have : f = k := by omega
        rw [this]; exact ha.1

theorem TT.table_ok {P : Program} {t : TT} (ha : t.All P) : TableOK P t.get := fun f af h => tableOf_ok f af (TT.get_ok ha h)

/-! ### Texts that a program writes -/

/-- an operation without its place in the text -/
def so (op : Op) (t : TypeId) : Oper := { dst := none, op, type := t, pos := "", after := #[], guard := none }

/-- a piece of code, by the way to it -/
def subCode : Option Code → List Bool → Option Code
  | c, [] => c
  | some (.seq a _), false :: r => subCode (some a) r
  | some (.seq _ b), true :: r => subCode (some b) r
  | some (.cond _ a _), false :: r => subCode (some a) r
  | some (.cond _ _ b), true :: r => subCode (some b) r
  | some (.block _ b), false :: r => subCode (some b) r
  | some (.loop b), false :: r => subCode (some b) r
  | some (.scope b), false :: r => subCode (some b) r
  | _, _ => none
def rangeParts : Option Code → Code × Code
  | some (.rangeFunc _ _ a b) => (a, b)
  | _ => (.skip, .skip)

/-! ### The rules -/

section
variable {P : Program} {T : Table} {ts ts' : List Value} {ds : List Deferred} {h h' : Heap} {rd : Option Nat} {op : AOp} {v : Value} {d : Nat} {chk : List (Option Nat × AOp × Option (Nat × Bool))} {pan : Bool} {rest : List AOper} {Q : QP}

/-- an operation of a region -/
theorem O.one [k : XOp P ts h op v h'] [s : LSet ts d v ts'] (hr : RunO P T rest ⟨ts', ds, h', rd⟩ Q) : RunO P T (⟨some d, op, none, chk, pan⟩ :: rest) ⟨ts, ds, h, rd⟩ Q :=
  RunO.cons rfl k.nd (RunX.ok k.run (by show RunO P T rest ⟨lset ts d v, ds, h', rd⟩ Q; rw [s.eq]; exact hr))
theorem O.one0 [k : XOp P ts h op v h'] (hr : RunO P T rest ⟨ts, ds, h', rd⟩ Q) : RunO P T (⟨none, op, none, chk, pan⟩ :: rest) ⟨ts, ds, h, rd⟩ Q :=
  RunO.cons rfl k.nd (RunX.ok k.run hr)
/-- .. that is guarded -/
theorem O.oneT {t : Nat} {b : Bool} [g : LGet ts t (.bool b)] [k : XOp P ts h op v h'] [s : LSet ts d v ts'] (hr : RunO P T rest ⟨ts', ds, h', rd⟩ Q) : RunO P T (⟨some d, op, some (t, b), chk, pan⟩ :: rest) ⟨ts, ds, h, rd⟩ Q :=
  RunO.cons (by simp only [wantedT, g.eq]; cases b <;> rfl) k.nd (RunX.ok k.run (by show RunO P T rest ⟨lset ts d v, ds, h', rd⟩ Q; rw [s.eq]; exact hr))
theorem O.skT {t : Nat} [g : LGet ts t (.bool false)] [s : LSet ts d undef ts'] (hr : RunO P T rest ⟨ts', ds, h, rd⟩ Q) : RunO P T (⟨some d, op, some (t, true), chk, pan⟩ :: rest) ⟨ts, ds, h, rd⟩ Q :=
  RunO.skip (by simp only [wantedT, g.eq]; rfl) (by show RunO P T rest ⟨lset ts d undef, ds, h, rd⟩ Q; rw [s.eq]; exact hr)
theorem O.skF {t : Nat} [g : LGet ts t (.bool true)] [s : LSet ts d undef ts'] (hr : RunO P T rest ⟨ts', ds, h, rd⟩ Q) : RunO P T (⟨some d, op, some (t, false), chk, pan⟩ :: rest) ⟨ts, ds, h, rd⟩ Q :=
  RunO.skip (by simp only [wantedT, g.eq]; rfl) (by show RunO P T rest ⟨lset ts d undef, ds, h, rd⟩ Q; rw [s.eq]; exact hr)
theorem O.nil (hq : Q .normal ⟨ts, ds, h, rd⟩) : RunO P T [] ⟨ts, ds, h, rd⟩ Q := RunO.nil hq

/-- .. by its instance's proof -/
theorem O.how (k : XOp P ts h op v h') [s : LSet ts d v ts'] (hr : RunO P T rest ⟨ts', ds, h', rd⟩ Q) : RunO P T (⟨some d, op, none, chk, pan⟩ :: rest) ⟨ts, ds, h, rd⟩ Q := O.one hr
theorem O.howT {t : Nat} {b : Bool} (k : XOp P ts h op v h') [g : LGet ts t (.bool b)] [s : LSet ts d v ts'] (hr : RunO P T rest ⟨ts', ds, h', rd⟩ Q) : RunO P T (⟨some d, op, some (t, b), chk, pan⟩ :: rest) ⟨ts, ds, h, rd⟩ Q := O.oneT hr

/-- an operation that is known to answer a value -/
theorem O.by (hx : xop P (eval ts) h op = .ok v h') (hp : op.plain = true := by rfl) [s : LSet ts d v ts'] (hr : RunO P T rest ⟨ts', ds, h', rd⟩ Q) : RunO P T (⟨some d, op, none, chk, pan⟩ :: rest) ⟨ts, ds, h, rd⟩ Q :=
  @O.one P T ts ts' ds h h' rd op v d chk pan rest Q ⟨hp, hx⟩ s hr
theorem O.by0 (hx : xop P (eval ts) h op = .ok v h') (hp : op.plain = true := by rfl) (hr : RunO P T rest ⟨ts, ds, h', rd⟩ Q) : RunO P T (⟨none, op, none, chk, pan⟩ :: rest) ⟨ts, ds, h, rd⟩ Q :=
  @O.one0 P T ts ds h h' rd op v chk pan rest Q ⟨hp, hx⟩ hr

/-- a call -/
theorem O.call {f : Operand} {args : List Operand} {fid : FuncId} {first captured vs : List Value} [e : Ev ts f (.func (.func fid) ⟨first⟩ ⟨captured⟩)] [k : EvL ts args vs] {R : RP} {X : XP}
    (hr : Runs P T (.fn fid) (first ++ vs ++ captured) h R X) (hk : ∀ v h', R v h' → RunO P T rest ⟨lset ts d v, ds, h', rd⟩ Q) (hx : ∀ c h', X c h' → Q (.panic c) ⟨ts, ds, h', rd⟩) :
    RunO P T (⟨some d, .callV f args, none, chk, pan⟩ :: rest) ⟨ts, ds, h, rd⟩ Q :=
  RunO.cons rfl (fun _ _ e => by cases e) (RunX.call (by simp only [e.eq, k.eq, target]) (hr.mono hk hx))
theorem O.call0 {f : Operand} {args : List Operand} {fid : FuncId} {first captured vs : List Value} [e : Ev ts f (.func (.func fid) ⟨first⟩ ⟨captured⟩)] [k : EvL ts args vs] {R : RP} {X : XP}
    (hr : Runs P T (.fn fid) (first ++ vs ++ captured) h R X) (hk : ∀ v h', R v h' → RunO P T rest ⟨ts, ds, h', rd⟩ Q) (hx : ∀ c h', X c h' → Q (.panic c) ⟨ts, ds, h', rd⟩) :
    RunO P T (⟨none, .callV f args, none, chk, pan⟩ :: rest) ⟨ts, ds, h, rd⟩ Q :=
  RunO.cons rfl (fun _ _ e => by cases e) (RunX.call (by simp only [e.eq, k.eq, target]) (hr.mono hk hx))

/-! a region that draws its order -/
theorem D.one [k : XOp P ts h op v h'] [s : LSet ts d v ts'] (hc : chk.all (stable P ts' h') = true := by rfl) (hr : RunD P T rest ⟨ts', ds, h', rd⟩ Q) : RunD P T (⟨some d, op, none, chk, pan⟩ :: rest) ⟨ts, ds, h, rd⟩ Q :=
  RunD.cons rfl (RunX.ok k.run (by
    show chk.all (stable P (lset ts d v) h') = true ∧ RunD P T rest ⟨lset ts d v, ds, h', rd⟩ Q
    rw [s.eq]; exact ⟨hc, hr⟩))
theorem D.one0 [k : XOp P ts h op v h'] (hc : chk.all (stable P ts h') = true := by rfl) (hr : RunD P T rest ⟨ts, ds, h', rd⟩ Q) : RunD P T (⟨none, op, none, chk, pan⟩ :: rest) ⟨ts, ds, h, rd⟩ Q :=
  RunD.cons rfl (RunX.ok k.run ⟨hc, hr⟩)
theorem D.oneT {t : Nat} {b : Bool} [g : LGet ts t (.bool b)] [k : XOp P ts h op v h'] [s : LSet ts d v ts'] (hc : chk.all (stable P ts' h') = true := by rfl) (hr : RunD P T rest ⟨ts', ds, h', rd⟩ Q) : RunD P T (⟨some d, op, some (t, b), chk, pan⟩ :: rest) ⟨ts, ds, h, rd⟩ Q :=
  RunD.cons (by simp only [wantedT, g.eq]; cases b <;> rfl) (RunX.ok k.run (by
    show chk.all (stable P (lset ts d v) h') = true ∧ RunD P T rest ⟨lset ts d v, ds, h', rd⟩ Q
    rw [s.eq]; exact ⟨hc, hr⟩))
theorem D.how (k : XOp P ts h op v h') [s : LSet ts d v ts'] (hc : chk.all (stable P ts' h') = true := by rfl) (hr : RunD P T rest ⟨ts', ds, h', rd⟩ Q) : RunD P T (⟨some d, op, none, chk, pan⟩ :: rest) ⟨ts, ds, h, rd⟩ Q := D.one hc hr
theorem D.nil (hq : Q .normal ⟨ts, ds, h, rd⟩) : RunD P T [] ⟨ts, ds, h, rd⟩ Q := RunD.nil hq

/-! code -/
variable {a b : ACode}
theorem C.next (hr : RunC P T b ⟨ts, ds, h, rd⟩ Q) : thenQ P T b Q .normal ⟨ts, ds, h, rd⟩ := thenQ.next hr
theorem C.ret2 {s : St} (hr : Q .ret s) : thenQ P T b Q .ret s := thenQ.ret hr
theorem C.exit2 {s : St} {j : Nat} (hr : Q (.exit j) s) : thenQ P T b Q (.exit j) s := thenQ.exit hr
theorem C.pan2 {s : St} {c : List PanicEntry} (hr : Q (.panic c) s) : thenQ P T b Q (.panic c) s := thenQ.panic hr
theorem C.nextB {s : St} {id : Nat} (hr : Q .normal s) : blockQ id Q .normal s := blockQ.next hr
theorem C.retB {s : St} {id : Nat} (hr : Q .ret s) : blockQ id Q .ret s := blockQ.ret hr
theorem C.panB {s : St} {id : Nat} {c : List PanicEntry} (hr : Q (.panic c) s) : blockQ id Q (.panic c) s := blockQ.panic hr
theorem C.exitB {s : St} {id : Nat} (hr : Q .normal s) : blockQ id Q (.exit id) s := blockQ.exit hr
theorem C.exitN {s : St} {id j : Nat} (hne : j ≠ id) (hr : Q (.exit j) s) : blockQ id Q (.exit j) s := blockQ.pass hne hr

theorem C.if {c : Operand} {t e : ACode} {p : Prop} [Decidable p] [k : Ev ts c (.bool (decide p))] (ht : p → RunC P T t ⟨ts, ds, h, rd⟩ Q) (he : ¬ p → RunC P T e ⟨ts, ds, h, rd⟩ Q) : RunC P T (.cond c t e) ⟨ts, ds, h, rd⟩ Q :=
  RunC.cond k.eq (fun h => ht (of_decide_eq_true h)) (fun h => he (of_decide_eq_false h))
theorem C.ifN {c : Operand} {t e : ACode} {p : Prop} [Decidable p] [k : Ev ts c (.bool (!decide p))] (ht : ¬ p → RunC P T t ⟨ts, ds, h, rd⟩ Q) (he : p → RunC P T e ⟨ts, ds, h, rd⟩ Q) : RunC P T (.cond c t e) ⟨ts, ds, h, rd⟩ Q :=
  RunC.cond k.eq (fun h => ht (by simpa using h)) (fun h => he (by simpa using h))
theorem C.ifT {c : Operand} {t e : ACode} [k : Ev ts c (.bool true)] (ht : RunC P T t ⟨ts, ds, h, rd⟩ Q) : RunC P T (.cond c t e) ⟨ts, ds, h, rd⟩ Q := RunC.condT k.eq ht
theorem C.ifF {c : Operand} {t e : ACode} [k : Ev ts c (.bool false)] (ht : RunC P T e ⟨ts, ds, h, rd⟩ Q) : RunC P T (.cond c t e) ⟨ts, ds, h, rd⟩ Q := RunC.condF k.eq ht
theorem C.ifB {c : Operand} {t e : ACode} {A : Bool} [k : Ev ts c (.bool A)] (ht : A = true → RunC P T t ⟨ts, ds, h, rd⟩ Q) (he : A = false → RunC P T e ⟨ts, ds, h, rd⟩ Q) : RunC P T (.cond c t e) ⟨ts, ds, h, rd⟩ Q := RunC.cond k.eq ht he

/-! results -/
class ResL (h : Heap) (ts : List Value) (rs : List (Nat × Option (Option Nat))) (out : outParam (List Value)) : Prop where
  eq : resVals h ts rs = some out
instance : ResL h ts [] [] := ⟨rfl⟩
instance {t : Nat} {rs : List (Nat × Option (Option Nat))} {out : List Value} [e : LGet ts t v] [k : ResL h ts rs out] : ResL h ts ((t, none) :: rs) (v :: out) := ⟨by simp only [resVals, k.eq, e.eq, Option.map_some]⟩
instance {t r o : Nat} {sp : Option Nat} {rs : List (Nat × Option (Option Nat))} {out : List Value} [e : LGet ts t (.pointer (some ⟨r, o, sp⟩))] [c : Cell h r o v] [k : ResL h ts rs out] : ResL h ts ((t, some none) :: rs) (v :: out) := ⟨by
  simp only [resVals, k.eq, e.eq, c.eq]⟩
instance {t r o n : Nat} {sp : Option Nat} {rs : List (Nat × Option (Option Nat))} {out l : List Value} [e : LGet ts t (.pointer (some ⟨r, o, sp⟩))] [c : Cells h r o n l] [k : ResL h ts rs out] : ResL h ts ((t, some (some n)) :: rs) (.agg ⟨l⟩ :: out) := ⟨by
  simp only [resVals, k.eq, e.eq, c.eq, Option.map_some]⟩
class ResO (h : Heap) (ts : List Value) (rs : List (Nat × Option (Option Nat))) (v : outParam Value) : Prop where
  eq : resOf h ts rs = some v
instance : ResO h ts [] (.tuple ⟨[]⟩) := ⟨rfl⟩
instance {r : Nat × Option (Option Nat)} [k : ResL h ts [r] [v]] : ResO h ts [r] v := ⟨by simp only [resOf, k.eq]⟩
instance {r s : Nat × Option (Option Nat)} {rs : List (Nat × Option (Option Nat))} {x y : Value} {out : List Value} [k : ResL h ts (r :: s :: rs) (x :: y :: out)] : ResO h ts (r :: s :: rs) (.tuple ⟨x :: y :: out⟩) := ⟨by simp only [resOf, k.eq]⟩

variable {rs : List (Nat × Option (Option Nat))} {R : RP} {X : XP}
theorem B.ret [k : ResO h ts rs v] (hr : R v h) : bodyQ P T rs R X .ret ⟨ts, [], h, rd⟩ := bodyQ.onRet (RunL.nil k.eq hr)
theorem B.end [k : ResO h ts rs v] (hr : R v h) : bodyQ P T rs R X .normal ⟨ts, [], h, rd⟩ := bodyQ.onEnd (RunL.nil k.eq hr)
theorem B.panic {c : List PanicEntry} (hr : X c h) : bodyQ P T rs R X (.panic c) ⟨ts, [], h, rd⟩ := bodyQ.onPanic (RunL.pan hr)
end
end Go.Vm
