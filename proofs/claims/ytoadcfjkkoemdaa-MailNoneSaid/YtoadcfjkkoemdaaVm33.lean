/- A small machine over an abstract heap: what an operation answers, found by instances. -/
import Derived.Test.YtoadcfjkkoemdaaVm32
set_option linter.unusedSimpArgs false
set_option linter.unusedVariables false
namespace Go.Vm

/-! ### Slots -/

class LGet (l : List Value) (i : Nat) (v : outParam Value) : Prop where
  eq : lget l i = v
  lt : i < l.length
class LSet (l : List Value) (i : Nat) (v : Value) (l' : outParam (List Value)) : Prop where
  eq : lset l i v = l'

section
variable {a0 a1 a2 a3 a4 a5 a6 a7 v : Value} {l l' : List Value} {i : Nat}
instance LGet.i0 : LGet (v :: l) 0 v := ⟨rfl, by simp⟩
instance LGet.i1 : LGet (a0 :: v :: l) 1 v := ⟨rfl, by simp⟩
instance LGet.i2 : LGet (a0 :: a1 :: v :: l) 2 v := ⟨rfl, by simp⟩
instance LGet.i3 : LGet (a0 :: a1 :: a2 :: v :: l) 3 v := ⟨rfl, by simp⟩
instance LGet.i4 : LGet (a0 :: a1 :: a2 :: a3 :: v :: l) 4 v := ⟨rfl, by simp⟩
instance LGet.i5 : LGet (a0 :: a1 :: a2 :: a3 :: a4 :: v :: l) 5 v := ⟨rfl, by simp⟩
instance LGet.i6 : LGet (a0 :: a1 :: a2 :: a3 :: a4 :: a5 :: v :: l) 6 v := ⟨rfl, by simp⟩
instance LGet.i7 : LGet (a0 :: a1 :: a2 :: a3 :: a4 :: a5 :: a6 :: v :: l) 7 v := ⟨rfl, by simp⟩
instance LGet.j8 [h : LGet l i v] : LGet (a0 :: a1 :: a2 :: a3 :: a4 :: a5 :: a6 :: a7 :: l) (i + 8) v := ⟨h.eq, by have := h.lt; simp; omega⟩
instance LSet.i0 : LSet (a0 :: l) 0 v (v :: l) := ⟨rfl⟩
instance LSet.i1 : LSet (a0 :: a1 :: l) 1 v (a0 :: v :: l) := ⟨rfl⟩
instance LSet.i2 : LSet (a0 :: a1 :: a2 :: l) 2 v (a0 :: a1 :: v :: l) := ⟨rfl⟩
instance LSet.i3 : LSet (a0 :: a1 :: a2 :: a3 :: l) 3 v (a0 :: a1 :: a2 :: v :: l) := ⟨rfl⟩
instance LSet.i4 : LSet (a0 :: a1 :: a2 :: a3 :: a4 :: l) 4 v (a0 :: a1 :: a2 :: a3 :: v :: l) := ⟨rfl⟩
instance LSet.i5 : LSet (a0 :: a1 :: a2 :: a3 :: a4 :: a5 :: l) 5 v (a0 :: a1 :: a2 :: a3 :: a4 :: v :: l) := ⟨rfl⟩
instance LSet.i6 : LSet (a0 :: a1 :: a2 :: a3 :: a4 :: a5 :: a6 :: l) 6 v (a0 :: a1 :: a2 :: a3 :: a4 :: a5 :: v :: l) := ⟨rfl⟩
instance LSet.i7 : LSet (a0 :: a1 :: a2 :: a3 :: a4 :: a5 :: a6 :: a7 :: l) 7 v (a0 :: a1 :: a2 :: a3 :: a4 :: a5 :: a6 :: v :: l) := ⟨rfl⟩
instance LSet.j8 [h : LSet l i v l'] : LSet (a0 :: a1 :: a2 :: a3 :: a4 :: a5 :: a6 :: a7 :: l) (i + 8) v (a0 :: a1 :: a2 :: a3 :: a4 :: a5 :: a6 :: a7 :: l') := ⟨by show _ :: _ :: _ :: _ :: _ :: _ :: _ :: _ :: lset l i v = _; rw [h.eq]⟩
end

/-! ### Operands -/

class Gr (v : Value) : Prop where
  eq : ground v = true
class GrL (l : List Value) : Prop where
  eq : groundL l = true
instance {b : Bool} : Gr (.bool b) := ⟨rfl⟩
instance {k : IntKind} {n : Int} : Gr (.int k n) := ⟨rfl⟩
instance {k : FloatKind} {n : Nat} : Gr (.float k n) := ⟨rfl⟩
instance {s : ByteArray} : Gr (.string s) := ⟨rfl⟩
instance : Gr (.pointer none) := ⟨rfl⟩
instance {a b : Nat} : Gr (.slice none a b) := ⟨rfl⟩
instance : Gr (.map none) := ⟨rfl⟩
instance : Gr .nilFunc := ⟨rfl⟩
instance : Gr .nilIface := ⟨rfl⟩
instance {t : TypeId} {v : Value} [h : Gr v] : Gr (.iface t v) := ⟨h.eq⟩
instance {l : List Value} [h : GrL l] : Gr (.agg ⟨l⟩) := ⟨h.eq⟩
instance {l : List Value} [h : GrL l] : Gr (.tuple ⟨l⟩) := ⟨h.eq⟩
instance {f : FuncId} {l m : List Value} [h : GrL l] [k : GrL m] : Gr (.func (.func f) ⟨l⟩ ⟨m⟩) := ⟨by simp only [ground, groundA, h.eq, k.eq]; rfl⟩
instance : GrL [] := ⟨rfl⟩
instance {v : Value} {l : List Value} [h : Gr v] [k : GrL l] : GrL (v :: l) := ⟨by simp only [groundL, h.eq, k.eq]; rfl⟩

theorem groundL_append {l m : List Value} : groundL (l ++ m) = (groundL l && groundL m) := by
  induction l with
  | nil => rfl
  | cons a l ih => simp only [List.cons_append, groundL, ih, Bool.and_assoc]
instance {l m : List Value} [h : GrL l] [k : GrL m] : GrL (l ++ m) := ⟨by rw [groundL_append, h.eq, k.eq]; rfl⟩

class Ev (ts : List Value) (x : Operand) (v : outParam Value) : Prop where
  eq : eval ts x = v
class EvL (ts : List Value) (x : List Operand) (v : outParam (List Value)) : Prop where
  eq : x.map (eval ts) = v
section
variable {ts : List Value}
instance Ev.tmp {i : Nat} {v : Value} [h : LGet ts i v] : Ev ts (.tmp i) v := ⟨h.eq⟩
instance Ev.const {v : Value} [h : Gr v] : Ev ts (.const v) v := ⟨by simp only [eval, h.eq]⟩
instance Ev.func {f : FuncId} : Ev ts (.func f) (.func (.func f) ⟨[]⟩ ⟨[]⟩) := ⟨rfl⟩
instance EvL.nil : EvL ts [] [] := ⟨rfl⟩
instance EvL.cons {x : Operand} {v : Value} {xs : List Operand} {vs : List Value} [h : Ev ts x v] [k : EvL ts xs vs] : EvL ts (x :: xs) (v :: vs) := ⟨by rw [List.map_cons, h.eq, k.eq]⟩
end

/-! ### The heap -/

class BLt (b : Nat) (h : Heap) : Prop where
  lt : b < h.n
class BNe (b c : Nat) : Prop where
  ne : b ≠ c
class HGet (h : Heap) (b : Nat) (o : outParam AObj) : Prop where
  eq : h.get b = o

section
variable {h h' : Heap} {b c : Nat} {o o' : AObj}
instance BLt.new : BLt h.n (h.push o) := ⟨by simp⟩
instance BLt.push [k : BLt b h] : BLt b (h.push o) := ⟨by have := k.lt; simp; omega⟩
instance BLt.set [k : BLt b h] : BLt b (h.set c o) := ⟨by have := k.lt; simpa using this⟩
instance BNe.new1 [k : BLt b h] : BNe b h.n := ⟨by have := k.lt; omega⟩
instance BNe.new2 [k : BLt b h] : BNe h.n b := ⟨by have := k.lt; omega⟩
instance (priority := high) HGet.new : HGet (h.push o) h.n o := ⟨by rw [Heap.get_push, if_pos rfl]⟩
instance HGet.push [k : BLt b h] [g : HGet h b o] : HGet (h.push o') b o := ⟨by rw [Heap.get_push, if_neg (by have := k.lt; omega), g.eq]⟩
instance (priority := high) HGet.same : HGet (h.set b o) b o := ⟨by rw [Heap.get_set, if_pos rfl]⟩
instance HGet.set [k : BNe b c] [g : HGet h b o] : HGet (h.set c o') b o := ⟨by rw [Heap.get_set, if_neg k.ne, g.eq]⟩
end

theorem Tr.set_mk : ∀ (f i : Nat) (o o' : AObj), i ≤ f → (Tr.mk f i o).set i o' = Tr.mk f i o'
  | 0, i, o, o', h => by
    obtain rfl : i = 0 := by omega
    rfl
  | f + 1, i, o, o', h => by
    simp only [Tr.mk]
    by_cases h0 : i = 0
    · simp [h0, Tr.set]
    · by_cases h1 : i % 2 = 1
      · simp only [h0, h1, if_true, if_false, Tr.set]
        rw [Tr.set_mk f (i / 2) o o' (by omega)]
      · simp only [h0, h1, if_true, if_false, Tr.set]
        rw [Tr.set_mk f (i / 2 - 1) o o' (by omega)]

theorem Tr.set_set : ∀ (t : Tr) (i : Nat) (o o' : AObj), (t.set i o).set i o' = t.set i o'
  | .nil, i, o, o' => by simp only [Tr.set]; exact Tr.set_mk _ _ _ _ (Nat.le_refl _)
  | .node v l r, i, o, o' => by
    simp only [Tr.set]
    by_cases h0 : i = 0
    · simp [h0, Tr.set]
    · by_cases h1 : i % 2 = 1
      · simp only [h0, h1, if_true, if_false, Tr.set, Tr.set_set l]
      · simp only [h0, h1, if_true, if_false, Tr.set, Tr.set_set r]

theorem Heap.set_set (h : Heap) (i : Nat) (o o' : AObj) : (h.set i o).set i o' = h.set i o' := by
  simp only [Heap.set, Tr.set_set]
theorem Heap.push_set (h : Heap) (o o' : AObj) : (h.push o).set h.n o' = h.push o' := by
  simp only [Heap.set, Heap.push, Tr.set_set]

/-- a block is written -/
class HSet (h : Heap) (b : Nat) (o : AObj) (h' : outParam Heap) : Prop where
  eq : h.set b o = h'
section
variable {h h' : Heap} {b c : Nat} {o o' : AObj}
instance (priority := low) HSet.any : HSet h b o (h.set b o) := ⟨rfl⟩
instance (priority := high) HSet.set : HSet (h.set b o') b o (h.set b o) := ⟨Heap.set_set _ _ _ _⟩
instance (priority := high) HSet.push : HSet (h.push o') h.n o (h.push o) := ⟨Heap.push_set _ _ _⟩
end

/-! ### Pieces of lists -/

class Len (l : List Value) (n : outParam Nat) : Prop where
  eq : l.length = n
instance : Len [] 0 := ⟨rfl⟩
instance {v : Value} {l : List Value} {n : Nat} [h : Len l n] : Len (v :: l) (n + 1) := ⟨by simp [h.eq]⟩

/-- a list of 32 cells; of 4 -/
class L32 (l : List Value) : Prop where
  eq : l.length = 32
class L4 (l : List Value) : Prop where
  eq : l.length = 4

/-- n cells from a place on -/
class Sub (c : List Value) (off n : Nat) (out : outParam (List Value)) : Prop where
  le : off + n ≤ c.length
  eq : (c.drop off).take n = out
section
variable {a0 a1 a2 a3 a4 a5 a6 a7 : Value} {l p out : List Value} {off n : Nat}
instance Sub.zero : Sub l 0 0 [] := ⟨by simp, by simp⟩
instance Sub.take [h : Sub l 0 n out] : Sub (a0 :: l) 0 (n + 1) (a0 :: out) := ⟨by have := h.le; simp at *; omega, by have := h.eq; simp at *; exact this⟩
instance Sub.drop [h : Sub l off n out] : Sub (a0 :: l) (off + 1) n out := ⟨by have := h.le; simp at *; omega, by have := h.eq; simpa using this⟩
instance (priority := high) Sub.drop8 [h : Sub l off n out] : Sub (a0 :: a1 :: a2 :: a3 :: a4 :: a5 :: a6 :: a7 :: l) (off + 8) n out := ⟨by have := h.le; simp at *; omega, by have := h.eq; simpa using this⟩
instance (priority := high) Sub.all32 [k : L32 l] : Sub l 0 32 l := ⟨by rw [k.eq]; simp, by rw [List.drop_zero, List.take_of_length_le (by rw [k.eq]; omega)]⟩
instance (priority := high) Sub.all4 [k : L4 l] : Sub l 0 4 l := ⟨by rw [k.eq]; simp, by rw [List.drop_zero, List.take_of_length_le (by rw [k.eq]; omega)]⟩
instance (priority := high) Sub.app32 [k : L32 p] : Sub (p ++ l) 0 32 p := ⟨by simp [k.eq], by simp [← k.eq]⟩
instance (priority := high) Sub.app4 [k : L4 p] : Sub (p ++ l) 0 4 p := ⟨by simp [k.eq], by simp [← k.eq]⟩
instance Sub.take32 [k : L32 p] [h : Sub l 0 n out] : Sub (p ++ l) 0 (n + 32) (p ++ out) := ⟨by have := h.le; simp [k.eq] at *; omega, by have := h.eq; rw [List.drop_zero] at *; rw [Nat.add_comm n, ← k.eq, List.take_append, List.take_of_length_le (by omega), Nat.add_sub_cancel_left, this]⟩
instance Sub.take4 [k : L4 p] [h : Sub l 0 n out] : Sub (p ++ l) 0 (n + 4) (p ++ out) := ⟨by have := h.le; simp [k.eq] at *; omega, by have := h.eq; rw [List.drop_zero] at *; rw [Nat.add_comm n, ← k.eq, List.take_append, List.take_of_length_le (by omega), Nat.add_sub_cancel_left, this]⟩
instance Sub.drop32 [k : L32 p] [h : Sub l off n out] : Sub (p ++ l) (off + 32) n out := ⟨by have := h.le; simp [k.eq] at *; omega, by have := h.eq; rw [Nat.add_comm off, ← k.eq, List.drop_append, List.drop_eq_nil_of_le (by omega)]; simpa using this⟩
instance Sub.drop4 [k : L4 p] [h : Sub l off n out] : Sub (p ++ l) (off + 4) n out := ⟨by have := h.le; simp [k.eq] at *; omega, by have := h.eq; rw [Nat.add_comm off, ← k.eq, List.drop_append, List.drop_eq_nil_of_le (by omega)]; simpa using this⟩
end

/-- a list with others laid over it -/
class Over (c : List Value) (off : Nat) (xs : List Value) (c' : outParam (List Value)) : Prop where
  le : off + xs.length ≤ c.length
  eq : over c off xs = c'

theorem over_nil : ∀ (c : List Value) (off : Nat), over c off [] = c
  | [], 0 => rfl
  | [], _ + 1 => rfl
  | _ :: _, 0 => rfl
  | v :: c, off + 1 => by simp [over, over_nil c off]

theorem over_app : ∀ (p l xs : List Value) (off : Nat), over (p ++ l) (p.length + off) xs = p ++ over l off xs
  | [], l, xs, off => by simp
  | v :: p, l, xs, off => by
    have : (v :: p).length + off = (p.length + off) + 1 := by simp; omega
    rw [this, List.cons_append]
    show v :: over (p ++ l) (p.length + off) xs = _
    rw [over_app p l xs off]; rfl

theorem over_whole : ∀ (p q l : List Value), p.length = q.length → over (p ++ l) 0 q = q ++ l
  | [], [], l, _ => by simp [over_nil]
  | [], _ :: _, _, h => by simp at h
  | _ :: _, [], _, h => by simp at h
  | v :: p, w :: q, l, h => by
    show w :: over (p ++ l) 0 q = _
    rw [over_whole p q l (by simpa using h)]; rfl

section
variable {a0 a1 a2 a3 a4 a5 a6 a7 x : Value} {l l' p q xs : List Value} {off : Nat}
instance Over.zero : Over l 0 [] l := ⟨by simp, over_nil _ _⟩
instance Over.put [h : Over l 0 xs l'] : Over (a0 :: l) 0 (x :: xs) (x :: l') := ⟨by have := h.le; simp at *; omega, by show x :: over l 0 xs = _; rw [h.eq]⟩
instance Over.drop [h : Over l off xs l'] : Over (a0 :: l) (off + 1) xs (a0 :: l') := ⟨by have := h.le; simp at *; omega, by show a0 :: over l off xs = _; rw [h.eq]⟩
instance (priority := high) Over.all32 [k : L32 p] [j : L32 q] : Over p 0 q q := ⟨by rw [k.eq, j.eq]; simp, by have := over_whole p q [] (by rw [k.eq, j.eq]); simpa using this⟩
instance (priority := high) Over.all4 [k : L4 p] [j : L4 q] : Over p 0 q q := ⟨by rw [k.eq, j.eq]; simp, by have := over_whole p q [] (by rw [k.eq, j.eq]); simpa using this⟩
instance (priority := high) Over.app32 [k : L32 p] [j : L32 q] : Over (p ++ l) 0 q (q ++ l) := ⟨by simp [k.eq, j.eq], over_whole p q l (by rw [k.eq, j.eq])⟩
instance (priority := high) Over.app4 [k : L4 p] [j : L4 q] : Over (p ++ l) 0 q (q ++ l) := ⟨by simp [k.eq, j.eq], over_whole p q l (by rw [k.eq, j.eq])⟩
instance Over.drop32 [k : L32 p] [h : Over l off xs l'] : Over (p ++ l) (off + 32) xs (p ++ l') := ⟨by have := h.le; simp [k.eq] at *; omega, by rw [Nat.add_comm off, ← k.eq, over_app, h.eq]⟩
instance Over.drop4 [k : L4 p] [h : Over l off xs l'] : Over (p ++ l) (off + 4) xs (p ++ l') := ⟨by have := h.le; simp [k.eq] at *; omega, by rw [Nat.add_comm off, ← k.eq, over_app, h.eq]⟩
end

/-- the cells of a value -/
class CellsOf (v : Value) (l : outParam (List Value)) : Prop where
  eq : v.cells.toList = l
  len : v.cells.size = l.length
instance {l : List Value} : CellsOf (.agg ⟨l⟩) l := ⟨rfl, by simp [Value.cells]⟩
instance {b : Bool} : CellsOf (.bool b) [.bool b] := ⟨rfl, rfl⟩
instance {k : IntKind} {n : Int} : CellsOf (.int k n) [.int k n] := ⟨rfl, rfl⟩
instance {k : FloatKind} {n : Nat} : CellsOf (.float k n) [.float k n] := ⟨rfl, rfl⟩
instance {s : ByteArray} : CellsOf (.string s) [.string s] := ⟨rfl, rfl⟩
instance {a : Option Addr} : CellsOf (.pointer a) [.pointer a] := ⟨rfl, rfl⟩
instance {a : Option Addr} {m n : Nat} : CellsOf (.slice a m n) [.slice a m n] := ⟨rfl, rfl⟩
instance {a : Option Nat} : CellsOf (.map a) [.map a] := ⟨rfl, rfl⟩
instance {f : Fn} {a b : Array Value} : CellsOf (.func f a b) [.func f a b] := ⟨rfl, rfl⟩
instance : CellsOf .nilFunc [.nilFunc] := ⟨rfl, rfl⟩
instance {t : TypeId} {v : Value} : CellsOf (.iface t v) [.iface t v] := ⟨rfl, rfl⟩
instance : CellsOf .nilIface [.nilIface] := ⟨rfl, rfl⟩

class One (l : List Value) : Prop where
  eq : l.all Value.oneCell' = true
class One1 (v : Value) : Prop where
  eq : v.oneCell' = true
instance : One [] := ⟨rfl⟩
instance {v : Value} {l : List Value} [h : One1 v] [k : One l] : One (v :: l) := ⟨by simp [h.eq]; exact List.all_eq_true.1 k.eq⟩
instance {l m : List Value} [h : One l] [k : One m] : One (l ++ m) := ⟨by rw [List.all_append, h.eq, k.eq]; rfl⟩
instance {b : Bool} : One1 (.bool b) := ⟨rfl⟩
instance {k : IntKind} {n : Int} : One1 (.int k n) := ⟨rfl⟩
instance {k : FloatKind} {n : Nat} : One1 (.float k n) := ⟨rfl⟩
instance {s : ByteArray} : One1 (.string s) := ⟨rfl⟩
instance {a : Option Addr} : One1 (.pointer a) := ⟨rfl⟩
instance {a : Option Addr} {m n : Nat} : One1 (.slice a m n) := ⟨rfl⟩
instance {a : Option Nat} : One1 (.map a) := ⟨rfl⟩
instance {f : Fn} {a b : Array Value} : One1 (.func f a b) := ⟨rfl⟩
instance : One1 .nilFunc := ⟨rfl⟩
instance {t : TypeId} {v : Value} : One1 (.iface t v) := ⟨rfl⟩
instance : One1 .nilIface := ⟨rfl⟩

/-- cells that are read -/
class Cells (h : Heap) (b off n : Nat) (out : outParam (List Value)) : Prop where
  eq : cellsAt h b off n = some out
class CellsO (o : AObj) (c : outParam (List Value)) : Prop where
  eq : o.cellsOf = some c
instance {c : List Value} {es : Nat} : CellsO (.cells c es) c := ⟨rfl⟩
instance {c : List Value} : CellsO (.ro c) c := ⟨rfl⟩
instance {h : Heap} {b off n : Nat} {o : AObj} {c out : List Value} [g : HGet h b o] [k : CellsO o c] [s : Sub c off n out] : Cells h b off n out := ⟨by
  unfold cellsAt
  by_cases hn : n = 0
  · subst hn
    rw [if_pos rfl, ← s.eq]
    simp
  rw [if_neg hn, g.eq, k.eq]
  show (if off + n ≤ c.length then some ((c.drop off).take n) else none) = some out
  rw [if_pos s.le, s.eq]⟩

/-- one cell that is read -/
class Cell (h : Heap) (b off : Nat) (v : outParam Value) : Prop where
  eq : cellsAt h b off 1 = some [v]
theorem take_one : ∀ (l : List Value) (i : Nat), i < l.length → (l.drop i).take 1 = [lget l i]
  | [], i, h => by simp at h
  | v :: l, 0, _ => by simp [lget]
  | v :: l, i + 1, h => by
    show (l.drop i).take 1 = [lget l i]
    exact take_one l i (by simpa using h)
/-- a cell's place in a list with pieces -/
class CGet (l : List Value) (i : Nat) (v : outParam Value) : Prop where
  eq : lget l i = v
  lt : i < l.length
instance (priority := high) {l : List Value} {i : Nat} {v : Value} [h : LGet l i v] : CGet l i v := ⟨h.eq, h.lt⟩
theorem lget_app : ∀ (p l : List Value) (i : Nat), lget (p ++ l) (p.length + i) = lget l i
  | [], l, i => by simp
  | v :: p, l, i => by
    have : (v :: p).length + i = (p.length + i) + 1 := by simp; omega
    rw [this]
    exact lget_app p l i
instance CGet.cons {a : Value} {l : List Value} {i : Nat} {v : Value} [h : CGet l i v] : CGet (a :: l) (i + 1) v := ⟨h.eq, by have := h.lt; simp; omega⟩
instance CGet.app32 {p l : List Value} {i : Nat} {v : Value} [k : L32 p] [h : CGet l i v] : CGet (p ++ l) (i + 32) v := ⟨by rw [Nat.add_comm, ← k.eq, lget_app, h.eq], by have := h.lt; simp [k.eq]; omega⟩
instance CGet.app4 {p l : List Value} {i : Nat} {v : Value} [k : L4 p] [h : CGet l i v] : CGet (p ++ l) (i + 4) v := ⟨by rw [Nat.add_comm, ← k.eq, lget_app, h.eq], by have := h.lt; simp [k.eq]; omega⟩
instance {h : Heap} {b off : Nat} {o : AObj} {c : List Value} {v : Value} [g : HGet h b o] [k : CellsO o c] [s : CGet c off v] : Cell h b off v := ⟨by
  unfold cellsAt
  rw [if_neg (by omega), g.eq, k.eq]
  show (if off + 1 ≤ c.length then some ((c.drop off).take 1) else none) = some [v]
  rw [if_pos (show off + 1 ≤ c.length from s.lt), take_one _ _ s.lt, s.eq]⟩

/-- cells that are written -/
class Put (h : Heap) (b off : Nat) (xs : List Value) (h' : outParam Heap) : Prop where
  eq : putAt h b off xs = some h'
instance {h h' : Heap} {b off es : Nat} {c c' xs : List Value} [g : HGet h b (.cells c es)] [k : One xs] [s : Over c off xs c'] [t : HSet h b (.cells c' es) h'] : Put h b off xs h' := ⟨by
  unfold putAt
  rw [g.eq]
  show (if off + xs.length ≤ c.length ∧ xs.all Value.oneCell' = true then some (h.set b (.cells (over c off xs) es)) else none) = some h'
  rw [if_pos ⟨s.le, k.eq⟩, s.eq, t.eq]⟩

end Go.Vm
