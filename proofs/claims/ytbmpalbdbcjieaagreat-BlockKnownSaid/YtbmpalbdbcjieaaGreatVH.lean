/- A small machine over an abstract heap: what an operation answers, found by instances. -/
import Derived.Test.YtbmpalbdbcjieaaGreatVG
import Derived.IntWalk
set_option linter.unusedSimpArgs false
set_option linter.unusedVariables false
namespace Go.Vm
class LGet (l : List Value) (i : Nat) (v : outParam Value) : Prop where
  eq : lget l i = v
  lt : i < l.length
class LSet (l : List Value) (i : Nat) (v : Value) (l' : outParam (List Value)) : Prop where
  eq : lset l i v = l'
section
variable {a0 a1 a2 a3 a4 a5 a6 a7 v : Value} {l l' : List Value} {i : Nat}
instance LGet.i0 : LGet (v :: l) 0 v := ⟨rfl, by simp⟩
instance LGet.i1 : LGet (a0 :: v :: l) 1 v := ⟨rfl, by simp⟩
instance LGet.i2 : LGet (a0 :: a1 :: v :: l) 2 v := ⟨rfl, by simp⟩
instance LGet.i3 : LGet (a0 :: a1 :: a2 :: v :: l) 3 v := ⟨rfl, by simp⟩
instance LGet.i4 : LGet (a0 :: a1 :: a2 :: a3 :: v :: l) 4 v := ⟨rfl, by simp⟩
instance LGet.i5 : LGet (a0 :: a1 :: a2 :: a3 :: a4 :: v :: l) 5 v := ⟨rfl, by simp⟩
instance LGet.i6 : LGet (a0 :: a1 :: a2 :: a3 :: a4 :: a5 :: v :: l) 6 v := ⟨rfl, by simp⟩
instance LGet.i7 : LGet (a0 :: a1 :: a2 :: a3 :: a4 :: a5 :: a6 :: v :: l) 7 v := ⟨rfl, by simp⟩
instance LGet.j8 [h : LGet l i v] : LGet (a0 :: a1 :: a2 :: a3 :: a4 :: a5 :: a6 :: a7 :: l) (i + 8) v := ⟨h.eq, by have := h.lt; simp; omega⟩
instance LSet.i0 : LSet (a0 :: l) 0 v (v :: l) := ⟨rfl⟩
instance LSet.i1 : LSet (a0 :: a1 :: l) 1 v (a0 :: v :: l) := ⟨rfl⟩
instance LSet.i2 : LSet (a0 :: a1 :: a2 :: l) 2 v (a0 :: a1 :: v :: l) := ⟨rfl⟩
instance LSet.i3 : LSet (a0 :: a1 :: a2 :: a3 :: l) 3 v (a0 :: a1 :: a2 :: v :: l) := ⟨rfl⟩
instance LSet.i4 : LSet (a0 :: a1 :: a2 :: a3 :: a4 :: l) 4 v (a0 :: a1 :: a2 :: a3 :: v :: l) := ⟨rfl⟩
instance LSet.i5 : LSet (a0 :: a1 :: a2 :: a3 :: a4 :: a5 :: l) 5 v (a0 :: a1 :: a2 :: a3 :: a4 :: v :: l) := ⟨rfl⟩
instance LSet.i6 : LSet (a0 :: a1 :: a2 :: a3 :: a4 :: a5 :: a6 :: l) 6 v (a0 :: a1 :: a2 :: a3 :: a4 :: a5 :: v :: l) := ⟨rfl⟩
instance LSet.i7 : LSet (a0 :: a1 :: a2 :: a3 :: a4 :: a5 :: a6 :: a7 :: l) 7 v (a0 :: a1 :: a2 :: a3 :: a4 :: a5 :: a6 :: v :: l) := ⟨rfl⟩
instance LSet.j8 [h : LSet l i v l'] : LSet (a0 :: a1 :: a2 :: a3 :: a4 :: a5 :: a6 :: a7 :: l) (i + 8) v (a0 :: a1 :: a2 :: a3 :: a4 :: a5 :: a6 :: a7 :: l') := ⟨by show _ :: _ :: _ :: _ :: _ :: _ :: _ :: _ :: lset l i v = _; rw [h.eq]⟩
end
class Gr (v : Value) : Prop where
  eq : ground v = true
class GrL (l : List Value) : Prop where
  eq : groundL l = true
instance {b : Bool} : Gr (.bool b) := ⟨rfl⟩
instance {k : IntKind} {n : Int} : Gr (.int k n) := ⟨rfl⟩
instance {k : FloatKind} {n : Nat} : Gr (.float k n) := ⟨rfl⟩
instance {s : ByteArray} : Gr (.string s) := ⟨rfl⟩
instance : Gr (.pointer none) := ⟨rfl⟩
instance {a b : Nat} : Gr (.slice none a b) := ⟨rfl⟩
instance : Gr (.map none) := ⟨rfl⟩
instance : Gr .nilFunc := ⟨rfl⟩
instance : Gr .nilIface := ⟨rfl⟩
instance {t : TypeId} {v : Value} [h : Gr v] : Gr (.iface t v) := ⟨h.eq⟩
instance {l : List Value} [h : GrL l] : Gr (.agg ⟨l⟩) := ⟨h.eq⟩
instance {l : List Value} [h : GrL l] : Gr (.tuple ⟨l⟩) := ⟨h.eq⟩
instance {f : FuncId} {l m : List Value} [h : GrL l] [k : GrL m] : Gr (.func (.func f) ⟨l⟩ ⟨m⟩) := ⟨by simp only [ground, groundA, h.eq, k.eq]; rfl⟩
instance : GrL [] := ⟨rfl⟩
instance {v : Value} {l : List Value} [h : Gr v] [k : GrL l] : GrL (v :: l) := ⟨by simp only [groundL, h.eq, k.eq]; rfl⟩
theorem groundL_append {l m : List Value} : groundL (l ++ m) = (groundL l && groundL m) := by
  induction l with
  | nil => rfl
  | cons a l ih => simp only [List.cons_append, groundL, ih, Bool.and_assoc]
instance {l m : List Value} [h : GrL l] [k : GrL m] : GrL (l ++ m) := ⟨by rw [groundL_append, h.eq, k.eq]; rfl⟩
class Ev (ts : List Value) (x : Operand) (v : outParam Value) : Prop where
  eq : eval ts x = v
class EvL (ts : List Value) (x : List Operand) (v : outParam (List Value)) : Prop where
  eq : x.map (eval ts) = v
section
variable {ts : List Value}
instance Ev.tmp {i : Nat} {v : Value} [h : LGet ts i v] : Ev ts (.tmp i) v := ⟨h.eq⟩
instance Ev.const {v : Value} [h : Gr v] : Ev ts (.const v) v := ⟨by simp only [eval, h.eq]⟩
instance Ev.func {f : FuncId} : Ev ts (.func f) (.func (.func f) ⟨[]⟩ ⟨[]⟩) := ⟨rfl⟩
instance EvL.nil : EvL ts [] [] := ⟨rfl⟩
instance EvL.cons {x : Operand} {v : Value} {xs : List Operand} {vs : List Value} [h : Ev ts x v] [k : EvL ts xs vs] : EvL ts (x :: xs) (v :: vs) := ⟨by rw [List.map_cons, h.eq, k.eq]⟩
end
class BLt (b : Nat) (h : Heap) : Prop where
  lt : b < h.n
class BNe (b c : Nat) : Prop where
  ne : b ≠ c
class HGet (h : Heap) (b : Nat) (o : outParam AObj) : Prop where
  eq : h.get b = o
section
variable {h h' : Heap} {b c : Nat} {o o' : AObj}
instance BLt.new : BLt h.n (h.push o) := ⟨by simp⟩
instance BLt.push [k : BLt b h] : BLt b (h.push o) := ⟨by have := k.lt; simp; omega⟩
instance BLt.set [k : BLt b h] : BLt b (h.set c o) := ⟨by have := k.lt; simpa using this⟩
instance BNe.new1 [k : BLt b h] : BNe b h.n := ⟨by have := k.lt; omega⟩
instance BNe.new2 [k : BLt b h] : BNe h.n b := ⟨by have := k.lt; omega⟩
instance (priority := high) HGet.new : HGet (h.push o) h.n o := ⟨by rw [Heap.get_push, if_pos rfl]⟩
instance HGet.push [k : BLt b h] [g : HGet h b o] : HGet (h.push o') b o := ⟨by rw [Heap.get_push, if_neg (by have := k.lt; omega), g.eq]⟩
instance (priority := high) HGet.same : HGet (h.set b o) b o := ⟨by rw [Heap.get_set, if_pos rfl]⟩
instance HGet.set [k : BNe b c] [g : HGet h b o] : HGet (h.set c o') b o := ⟨by rw [Heap.get_set, if_neg k.ne, g.eq]⟩
end
theorem Tr.set_mk : ∀ (f i : Nat) (o o' : AObj), i ≤ f → (Tr.mk f i o).set i o' = Tr.mk f i o'
  | 0, i, o, o', h => by
    obtain rfl : i = 0 := by omega
    rfl
  | f + 1, i, o, o', h => by
    simp only [Tr.mk]
    by_cases h0 : i = 0
    · simp [h0, Tr.set]
    · by_cases h1 : i % 2 = 1
      · simp only [h0, h1, if_true, if_false, Tr.set]
        rw [Tr.set_mk f (i / 2) o o' (by omega)]
      · simp only [h0, h1, if_true, if_false, Tr.set]
        rw [Tr.set_mk f (i / 2 - 1) o o' (by omega)]
theorem Tr.set_set : ∀ (t : Tr) (i : Nat) (o o' : AObj), (t.set i o).set i o' = t.set i o'
  | .nil, i, o, o' => by simp only [Tr.set]; exact Tr.set_mk _ _ _ _ (Nat.le_refl _)
  | .node v l r, i, o, o' => by
    simp only [Tr.set]
    by_cases h0 : i = 0
    · simp [h0, Tr.set]
    · by_cases h1 : i % 2 = 1
      · simp only [h0, h1, if_true, if_false, Tr.set, Tr.set_set l]
      · simp only [h0, h1, if_true, if_false, Tr.set, Tr.set_set r]
theorem Heap.set_set (h : Heap) (i : Nat) (o o' : AObj) : (h.set i o).set i o' = h.set i o' := by
  simp only [Heap.set, Tr.set_set]
theorem Heap.push_set (h : Heap) (o o' : AObj) : (h.push o).set h.n o' = h.push o' := by
  simp only [Heap.set, Heap.push, Tr.set_set]
class HSet (h : Heap) (b : Nat) (o : AObj) (h' : outParam Heap) : Prop where
  eq : h.set b o = h'
section
variable {h h' : Heap} {b c : Nat} {o o' : AObj}
instance (priority := low) HSet.any : HSet h b o (h.set b o) := ⟨rfl⟩
instance (priority := high) HSet.set : HSet (h.set b o') b o (h.set b o) := ⟨Heap.set_set _ _ _ _⟩
instance (priority := high) HSet.push : HSet (h.push o') h.n o (h.push o) := ⟨Heap.push_set _ _ _⟩
end
class Len (l : List Value) (n : outParam Nat) : Prop where
  eq : l.length = n
instance : Len [] 0 := ⟨rfl⟩
instance {v : Value} {l : List Value} {n : Nat} [h : Len l n] : Len (v :: l) (n + 1) := ⟨by simp [h.eq]⟩
class L32 (l : List Value) : Prop where
  eq : l.length = 32
class L4 (l : List Value) : Prop where
  eq : l.length = 4
class Sub (c : List Value) (off n : Nat) (out : outParam (List Value)) : Prop where
  le : off + n ≤ c.length
  eq : (c.drop off).take n = out
section
variable {a0 a1 a2 a3 a4 a5 a6 a7 : Value} {l p out : List Value} {off n : Nat}
instance Sub.zero : Sub l 0 0 [] := ⟨by simp, by simp⟩
instance Sub.take [h : Sub l 0 n out] : Sub (a0 :: l) 0 (n + 1) (a0 :: out) := ⟨by have := h.le; simp at *; omega, by have := h.eq; simp at *; exact this⟩
instance Sub.drop [h : Sub l off n out] : Sub (a0 :: l) (off + 1) n out := ⟨by have := h.le; simp at *; omega, by have := h.eq; simpa using this⟩
instance (priority := high) Sub.drop8 [h : Sub l off n out] : Sub (a0 :: a1 :: a2 :: a3 :: a4 :: a5 :: a6 :: a7 :: l) (off + 8) n out := ⟨by have := h.le; simp at *; omega, by have := h.eq; simpa using this⟩
instance (priority := high) Sub.all32 [k : L32 l] : Sub l 0 32 l := ⟨by rw [k.eq]; simp, by rw [List.drop_zero, List.take_of_length_le (by rw [k.eq]; omega)]⟩
instance (priority := high) Sub.all4 [k : L4 l] : Sub l 0 4 l := ⟨by rw [k.eq]; simp, by rw [List.drop_zero, List.take_of_length_le (by rw [k.eq]; omega)]⟩
instance (priority := high) Sub.app32 [k : L32 p] : Sub (p ++ l) 0 32 p := ⟨by simp [k.eq], by simp [← k.eq]⟩
instance (priority := high) Sub.app4 [k : L4 p] : Sub (p ++ l) 0 4 p := ⟨by simp [k.eq], by simp [← k.eq]⟩
instance Sub.take32 [k : L32 p] [h : Sub l 0 n out] : Sub (p ++ l) 0 (n + 32) (p ++ out) := ⟨by have := h.le; simp [k.eq] at *; omega, by have := h.eq; rw [List.drop_zero] at *; rw [Nat.add_comm n, ← k.eq, List.take_append, List.take_of_length_le (by omega), Nat.add_sub_cancel_left, this]⟩
instance Sub.take4 [k : L4 p] [h : Sub l 0 n out] : Sub (p ++ l) 0 (n + 4) (p ++ out) := ⟨by have := h.le; simp [k.eq] at *; omega, by have := h.eq; rw [List.drop_zero] at *; rw [Nat.add_comm n, ← k.eq, List.take_append, List.take_of_length_le (by omega), Nat.add_sub_cancel_left, this]⟩
instance Sub.drop32 [k : L32 p] [h : Sub l off n out] : Sub (p ++ l) (off + 32) n out := ⟨by have := h.le; simp [k.eq] at *; omega, by have := h.eq; rw [Nat.add_comm off, ← k.eq, List.drop_append, List.drop_eq_nil_of_le (by omega)]; simpa using this⟩
instance Sub.drop4 [k : L4 p] [h : Sub l off n out] : Sub (p ++ l) (off + 4) n out := ⟨by have := h.le; simp [k.eq] at *; omega, by have := h.eq; rw [Nat.add_comm off, ← k.eq, List.drop_append, List.drop_eq_nil_of_le (by omega)]; simpa using this⟩
end
class Over (c : List Value) (off : Nat) (xs : List Value) (c' : outParam (List Value)) : Prop where
  le : off + xs.length ≤ c.length
  eq : over c off xs = c'
theorem over_nil : ∀ (c : List Value) (off : Nat), over c off [] = c
  | [], 0 => rfl
  | [], _ + 1 => rfl
  | _ :: _, 0 => rfl
  | v :: c, off + 1 => by simp [over, over_nil c off]
theorem over_app : ∀ (p l xs : List Value) (off : Nat), over (p ++ l) (p.length + off) xs = p ++ over l off xs
  | [], l, xs, off => by simp
  | v :: p, l, xs, off => by
    have : (v :: p).length + off = (p.length + off) + 1 := by simp; omega
    rw [this, List.cons_append]
    show v :: over (p ++ l) (p.length + off) xs = _
    rw [over_app p l xs off]; rfl
theorem over_whole : ∀ (p q l : List Value), p.length = q.length → over (p ++ l) 0 q = q ++ l
  | [], [], l, _ => by simp [over_nil]
  | [], _ :: _, _, h => by simp at h
  | _ :: _, [], _, h => by simp at h
  | v :: p, w :: q, l, h => by
    show w :: over (p ++ l) 0 q = _
    rw [over_whole p q l (by simpa using h)]; rfl
section
variable {a0 a1 a2 a3 a4 a5 a6 a7 x : Value} {l l' p q xs : List Value} {off : Nat}
instance Over.zero : Over l 0 [] l := ⟨by simp, over_nil _ _⟩
instance Over.put [h : Over l 0 xs l'] : Over (a0 :: l) 0 (x :: xs) (x :: l') := ⟨by have := h.le; simp at *; omega, by show x :: over l 0 xs = _; rw [h.eq]⟩
instance Over.drop [h : Over l off xs l'] : Over (a0 :: l) (off + 1) xs (a0 :: l') := ⟨by have := h.le; simp at *; omega, by show a0 :: over l off xs = _; rw [h.eq]⟩
instance (priority := high) Over.all32 [k : L32 p] [j : L32 q] : Over p 0 q q := ⟨by rw [k.eq, j.eq]; simp, by have := over_whole p q [] (by rw [k.eq, j.eq]); simpa using this⟩
instance (priority := high) Over.all4 [k : L4 p] [j : L4 q] : Over p 0 q q := ⟨by rw [k.eq, j.eq]; simp, by have := over_whole p q [] (by rw [k.eq, j.eq]); simpa using this⟩
instance (priority := high) Over.app32 [k : L32 p] [j : L32 q] : Over (p ++ l) 0 q (q ++ l) := ⟨by simp [k.eq, j.eq], over_whole p q l (by rw [k.eq, j.eq])⟩
instance (priority := high) Over.app4 [k : L4 p] [j : L4 q] : Over (p ++ l) 0 q (q ++ l) := ⟨by simp [k.eq, j.eq], over_whole p q l (by rw [k.eq, j.eq])⟩
instance Over.drop32 [k : L32 p] [h : Over l off xs l'] : Over (p ++ l) (off + 32) xs (p ++ l') := ⟨by have := h.le; simp [k.eq] at *; omega, by rw [Nat.add_comm off, ← k.eq, over_app, h.eq]⟩
instance Over.drop4 [k : L4 p] [h : Over l off xs l'] : Over (p ++ l) (off + 4) xs (p ++ l') := ⟨by have := h.le; simp [k.eq] at *; omega, by rw [Nat.add_comm off, ← k.eq, over_app, h.eq]⟩
end
class CellsOf (v : Value) (l : outParam (List Value)) : Prop where
  eq : v.cells.toList = l
  len : v.cells.size = l.length
instance {l : List Value} : CellsOf (.agg ⟨l⟩) l := ⟨rfl, by simp [Value.cells]⟩
instance {b : Bool} : CellsOf (.bool b) [.bool b] := ⟨rfl, rfl⟩
instance {k : IntKind} {n : Int} : CellsOf (.int k n) [.int k n] := ⟨rfl, rfl⟩
instance {k : FloatKind} {n : Nat} : CellsOf (.float k n) [.float k n] := ⟨rfl, rfl⟩
instance {s : ByteArray} : CellsOf (.string s) [.string s] := ⟨rfl, rfl⟩
instance {a : Option Addr} : CellsOf (.pointer a) [.pointer a] := ⟨rfl, rfl⟩
instance {a : Option Addr} {m n : Nat} : CellsOf (.slice a m n) [.slice a m n] := ⟨rfl, rfl⟩
instance {a : Option Nat} : CellsOf (.map a) [.map a] := ⟨rfl, rfl⟩
instance {f : Fn} {a b : Array Value} : CellsOf (.func f a b) [.func f a b] := ⟨rfl, rfl⟩
instance : CellsOf .nilFunc [.nilFunc] := ⟨rfl, rfl⟩
instance {t : TypeId} {v : Value} : CellsOf (.iface t v) [.iface t v] := ⟨rfl, rfl⟩
instance : CellsOf .nilIface [.nilIface] := ⟨rfl, rfl⟩
class One (l : List Value) : Prop where
  eq : l.all Value.oneCell' = true
class One1 (v : Value) : Prop where
  eq : v.oneCell' = true
instance : One [] := ⟨rfl⟩
instance {v : Value} {l : List Value} [h : One1 v] [k : One l] : One (v :: l) := ⟨by simp [h.eq]; exact List.all_eq_true.1 k.eq⟩
instance {l m : List Value} [h : One l] [k : One m] : One (l ++ m) := ⟨by rw [List.all_append, h.eq, k.eq]; rfl⟩
instance {b : Bool} : One1 (.bool b) := ⟨rfl⟩
instance {k : IntKind} {n : Int} : One1 (.int k n) := ⟨rfl⟩
instance {k : FloatKind} {n : Nat} : One1 (.float k n) := ⟨rfl⟩
instance {s : ByteArray} : One1 (.string s) := ⟨rfl⟩
instance {a : Option Addr} : One1 (.pointer a) := ⟨rfl⟩
instance {a : Option Addr} {m n : Nat} : One1 (.slice a m n) := ⟨rfl⟩
instance {a : Option Nat} : One1 (.map a) := ⟨rfl⟩
instance {f : Fn} {a b : Array Value} : One1 (.func f a b) := ⟨rfl⟩
instance : One1 .nilFunc := ⟨rfl⟩
instance {t : TypeId} {v : Value} : One1 (.iface t v) := ⟨rfl⟩
instance : One1 .nilIface := ⟨rfl⟩
class Cells (h : Heap) (b off n : Nat) (out : outParam (List Value)) : Prop where
  eq : cellsAt h b off n = some out
class CellsO (o : AObj) (c : outParam (List Value)) : Prop where
  eq : o.cellsOf = some c
instance {c : List Value} {es : Nat} : CellsO (.cells c es) c := ⟨rfl⟩
instance {c : List Value} : CellsO (.ro c) c := ⟨rfl⟩
instance {h : Heap} {b off n : Nat} {o : AObj} {c out : List Value} [g : HGet h b o] [k : CellsO o c] [s : Sub c off n out] : Cells h b off n out := ⟨by
  unfold cellsAt
  by_cases hn : n = 0
  · subst hn
    rw [if_pos rfl, ← s.eq]
    simp
  rw [if_neg hn, g.eq, k.eq]
  show (if off + n ≤ c.length then some ((c.drop off).take n) else none) = some out
  rw [if_pos s.le, s.eq]⟩
class Cell (h : Heap) (b off : Nat) (v : outParam Value) : Prop where
  eq : cellsAt h b off 1 = some [v]
theorem take_one : ∀ (l : List Value) (i : Nat), i < l.length → (l.drop i).take 1 = [lget l i]
  | [], i, h => by simp at h
  | v :: l, 0, _ => by simp [lget]
  | v :: l, i + 1, h => by
    show (l.drop i).take 1 = [lget l i]
    exact take_one l i (by simpa using h)
class CGet (l : List Value) (i : Nat) (v : outParam Value) : Prop where
  eq : lget l i = v
  lt : i < l.length
instance (priority := high) {l : List Value} {i : Nat} {v : Value} [h : LGet l i v] : CGet l i v := ⟨h.eq, h.lt⟩
theorem lget_app : ∀ (p l : List Value) (i : Nat), lget (p ++ l) (p.length + i) = lget l i
  | [], l, i => by simp
  | v :: p, l, i => by
    have : (v :: p).length + i = (p.length + i) + 1 := by simp; omega
    rw [this]
    exact lget_app p l i
instance CGet.cons {a : Value} {l : List Value} {i : Nat} {v : Value} [h : CGet l i v] : CGet (a :: l) (i + 1) v := ⟨h.eq, by have := h.lt; simp; omega⟩
instance CGet.app32 {p l : List Value} {i : Nat} {v : Value} [k : L32 p] [h : CGet l i v] : CGet (p ++ l) (i + 32) v := ⟨by rw [Nat.add_comm, ← k.eq, lget_app, h.eq], by have := h.lt; simp [k.eq]; omega⟩
instance CGet.app4 {p l : List Value} {i : Nat} {v : Value} [k : L4 p] [h : CGet l i v] : CGet (p ++ l) (i + 4) v := ⟨by rw [Nat.add_comm, ← k.eq, lget_app, h.eq], by have := h.lt; simp [k.eq]; omega⟩
instance {h : Heap} {b off : Nat} {o : AObj} {c : List Value} {v : Value} [g : HGet h b o] [k : CellsO o c] [s : CGet c off v] : Cell h b off v := ⟨by
  unfold cellsAt
  rw [if_neg (by omega), g.eq, k.eq]
  show (if off + 1 ≤ c.length then some ((c.drop off).take 1) else none) = some [v]
  rw [if_pos (show off + 1 ≤ c.length from s.lt), take_one _ _ s.lt, s.eq]⟩
class Put (h : Heap) (b off : Nat) (xs : List Value) (h' : outParam Heap) : Prop where
  eq : putAt h b off xs = some h'
instance {h h' : Heap} {b off es : Nat} {c c' xs : List Value} [g : HGet h b (.cells c es)] [k : One xs] [s : Over c off xs c'] [t : HSet h b (.cells c' es) h'] : Put h b off xs h' := ⟨by
  unfold putAt
  rw [g.eq]
  show (if off + xs.length ≤ c.length ∧ xs.all Value.oneCell' = true then some (h.set b (.cells (over c off xs) es)) else none) = some h'
  rw [if_pos ⟨s.le, k.eq⟩, s.eq, t.eq]⟩
end Go.Vm

/- A small machine over an abstract heap: operations, one rule each. -/
set_option linter.unusedSimpArgs false
set_option linter.unusedVariables false
namespace Go.Vm
def AOp.plain : AOp → Bool
  | .callV _ _ | .invoke _ _ _ | .nextMap _ | .defer _ _ | .recover => false
  | _ => true
theorem xo_plain {P : Program} {call : Caller} {ts : List Value} {h : Heap} {op : AOp} (hp : op.plain = true) : xo P call ts h op = match xop P (eval ts) h op with
    | .ok v h' => [.ret v h']
    | .pan v h' => [.pan [{ v, recovered := false }] h']
    | .bad => [.bad] := by
  cases op <;> first | rfl | cases hp
class XOp (P : Program) (ts : List Value) (h : Heap) (op : AOp) (v : outParam Value) (h' : outParam Heap) : Prop where
  plain : op.plain = true
  eq : xop P (eval ts) h op = .ok v h'
section
variable {P : Program} {ts : List Value} {h h' : Heap} {op : AOp} {v : Value}
theorem XOp.run [k : XOp P ts h op v h'] (call : Caller) : xo P call ts h op = [.ret v h'] := by rw [xo_plain k.plain, k.eq]
theorem XOp.nd [k : XOp P ts h op v h'] : ∀ f a, op ≠ .defer f a := fun f a e => by have := k.plain; rw [e] at this; cases this
theorem XOp.nr [k : XOp P ts h op v h'] : op ≠ .recover := fun e => by have := k.plain; rw [e] at this; cases this
end
class InR (k : IntKind) (n : Int) : Prop where
  eq : k.wrap n = n
class NZ (n : Nat) : Prop where
  ne : n ≠ 0
instance {n : Nat} : NZ (n + 1) := ⟨by omega⟩
class AddN (a b : Nat) (c : outParam Nat) : Prop where
  eq : a + b = c
instance (priority := high) {b : Nat} : AddN 0 b b := ⟨by simp⟩
instance (priority := high) {b : Nat} : AddN b 0 b := ⟨by simp⟩
instance {a b : Nat} : AddN a b (a + b) := ⟨rfl⟩
class IdxOff (o : Nat) (n : Int) (size : Nat) (out : outParam Nat) : Prop where
  eq : o + n.toNat * size = out
instance (priority := low) {o s : Nat} {n : Int} : IdxOff o n s (o + n.toNat * s) := ⟨rfl⟩
instance {o s j : Nat} : IdxOff o (j : Int) s (o + j * s) := ⟨by simp⟩
instance {o j : Nat} : IdxOff o (j : Int) 1 (o + j) := ⟨by simp⟩
instance {o : Nat} : IdxOff o 0 1 (o + 0) := ⟨rfl⟩
instance (priority := high) : IdxOff 0 0 1 0 := ⟨rfl⟩
instance {o : Nat} : IdxOff o 1 1 (o + 1) := ⟨rfl⟩
instance (priority := high) : IdxOff 0 1 1 1 := ⟨rfl⟩
instance {o : Nat} : IdxOff o 2 1 (o + 2) := ⟨rfl⟩
instance (priority := high) : IdxOff 0 2 1 2 := ⟨rfl⟩
instance {o : Nat} : IdxOff o 3 1 (o + 3) := ⟨rfl⟩
instance (priority := high) : IdxOff 0 3 1 3 := ⟨rfl⟩
instance {o : Nat} : IdxOff o 4 1 (o + 4) := ⟨rfl⟩
instance (priority := high) : IdxOff 0 4 1 4 := ⟨rfl⟩
instance {o : Nat} : IdxOff o 5 1 (o + 5) := ⟨rfl⟩
instance (priority := high) : IdxOff 0 5 1 5 := ⟨rfl⟩
instance {o : Nat} : IdxOff o 6 1 (o + 6) := ⟨rfl⟩
instance (priority := high) : IdxOff 0 6 1 6 := ⟨rfl⟩
instance {o : Nat} : IdxOff o 7 1 (o + 7) := ⟨rfl⟩
instance (priority := high) : IdxOff 0 7 1 7 := ⟨rfl⟩
instance {o : Nat} : IdxOff o 8 1 (o + 8) := ⟨rfl⟩
instance (priority := high) : IdxOff 0 8 1 8 := ⟨rfl⟩
instance {o : Nat} : IdxOff o 9 1 (o + 9) := ⟨rfl⟩
instance (priority := high) : IdxOff 0 9 1 9 := ⟨rfl⟩
instance {o : Nat} : IdxOff o 10 1 (o + 10) := ⟨rfl⟩
instance (priority := high) : IdxOff 0 10 1 10 := ⟨rfl⟩
instance {o : Nat} : IdxOff o 11 1 (o + 11) := ⟨rfl⟩
instance (priority := high) : IdxOff 0 11 1 11 := ⟨rfl⟩
instance {o : Nat} : IdxOff o 12 1 (o + 12) := ⟨rfl⟩
instance (priority := high) : IdxOff 0 12 1 12 := ⟨rfl⟩
instance {o : Nat} : IdxOff o 13 1 (o + 13) := ⟨rfl⟩
instance (priority := high) : IdxOff 0 13 1 13 := ⟨rfl⟩
instance {o : Nat} : IdxOff o 14 1 (o + 14) := ⟨rfl⟩
instance (priority := high) : IdxOff 0 14 1 14 := ⟨rfl⟩
instance {o : Nat} : IdxOff o 15 1 (o + 15) := ⟨rfl⟩
instance (priority := high) : IdxOff 0 15 1 15 := ⟨rfl⟩
instance {s j : Nat} : IdxOff 0 (j : Int) s (j * s) := ⟨by simp⟩
instance (priority := high) {j : Nat} : IdxOff 0 (j : Int) 1 j := ⟨by simp⟩
class LenN (l : List Value) (n : Nat) : Prop where
  eq : l.length = n
instance : LenN [] 0 := ⟨rfl⟩
instance {v : Value} {l : List Value} {n : Nat} [h : LenN l n] : LenN (v :: l) (n + 1) := ⟨by simp [h.eq]⟩
instance (priority := high) {l : List Value} [h : L32 l] : LenN l 32 := ⟨h.eq⟩
instance (priority := high) {l : List Value} [h : L4 l] : LenN l 4 := ⟨h.eq⟩
instance {p l : List Value} {n : Nat} [h : L32 p] [k : LenN l n] : LenN (p ++ l) (n + 32) := ⟨by simp [h.eq, k.eq]; omega⟩
instance {p l : List Value} {n : Nat} [h : L4 p] [k : LenN l n] : LenN (p ++ l) (n + 4) := ⟨by simp [h.eq, k.eq]; omega⟩
class EqV (h : Heap) (kind : EqKind) (x y : Value) (r : outParam Bool) : Prop where
  eq : eqv h kind x y = some r
section
variable {h : Heap}
instance : EqV h .ptr (.pointer none) (.pointer none) true := ⟨rfl⟩
instance {a : Addr} : EqV h .ptr (.pointer none) (.pointer (some a)) false := ⟨rfl⟩
instance {a : Addr} : EqV h .ptr (.pointer (some a)) (.pointer none) false := ⟨rfl⟩
instance {a b c d : Nat} : EqV h .slice (.slice none a b) (.slice none c d) true := ⟨rfl⟩
instance {a b c d : Nat} {x : Addr} : EqV h .slice (.slice (some x) a b) (.slice none c d) false := ⟨rfl⟩
instance {a b c d : Nat} {x : Addr} : EqV h .slice (.slice none a b) (.slice (some x) c d) false := ⟨rfl⟩
instance : EqV h .map (.map none) (.map none) true := ⟨rfl⟩
instance {a : Nat} : EqV h .map (.map none) (.map (some a)) false := ⟨rfl⟩
instance {a : Nat} : EqV h .map (.map (some a)) (.map none) false := ⟨rfl⟩
instance : EqV h .func .nilFunc .nilFunc true := ⟨rfl⟩
instance {f : Fn} {a b : Array Value} : EqV h .func (.func f a b) .nilFunc false := ⟨rfl⟩
instance {f : Fn} {a b : Array Value} : EqV h .func .nilFunc (.func f a b) false := ⟨rfl⟩
instance {t : TypeId} {v : Value} : EqV h .iface .nilIface (.iface t v) false := ⟨rfl⟩
instance {t : TypeId} {v : Value} : EqV h .iface (.iface t v) .nilIface false := ⟨rfl⟩
end
section
variable {P : Program} {ts : List Value} {h h' : Heap} {x y a b c i : Operand} {u v w : Value} {l l' out : List Value} {o n k size len r off m : Nat} {sp : Option Nat} {K J : IntKind} {p q : Int} {O : Oper} {A B : Bool}
instance XOp.mov [e : Ev ts x v] : XOp P ts h (.mov x) v h := ⟨rfl, by simp only [xop, e.eq]⟩
instance XOp.pickT [e : Ev ts c (.bool true)] [e1 : Ev ts a v] : XOp P ts h (.pick c a b) v h := ⟨rfl, by simp only [xop, e.eq, e1.eq, if_true]⟩
instance XOp.pickF [e : Ev ts c (.bool false)] [e1 : Ev ts b v] : XOp P ts h (.pick c a b) v h := ⟨rfl, by simp only [xop, e.eq, e1.eq]; rfl⟩
instance (priority := low) XOp.pick [e : Ev ts c (.bool A)] [e1 : Ev ts a u] [e2 : Ev ts b v] : XOp P ts h (.pick c a b) (if A then u else v) h := ⟨rfl, by simp only [xop, e.eq, e1.eq, e2.eq]⟩
instance XOp.alloc {t : TypeId} : XOp P ts h (.alloc t l) (.pointer (some ⟨h.n, 0, none⟩)) (h.push (.cells l 0)) := ⟨rfl, rfl⟩
instance XOp.box {t : TypeId} [e : Ev ts x v] [k : CellsOf v l] : XOp P ts h (.box t x) (.pointer (some ⟨h.n, 0, none⟩)) (h.push (.cells l 0)) := ⟨rfl, by simp only [xop, e.eq, k.eq]⟩
instance XOp.load1 [e : Ev ts x (.pointer (some ⟨r, o, sp⟩))] [k : Cell h r o v] : XOp P ts h (.load none x) v h := ⟨rfl, by simp only [xop, e.eq, k.eq]⟩
instance XOp.loadN [e : Ev ts x (.pointer (some ⟨r, o, sp⟩))] [k : Cells h r o n l] : XOp P ts h (.load (some n) x) (.agg ⟨l⟩) h := ⟨rfl, by simp only [xop, e.eq, k.eq]⟩
instance XOp.store [e : Ev ts a (.pointer (some ⟨r, o, sp⟩))] [f : Ev ts x v] [k : CellsOf v l] [j : LenN l n] [t : Put h r o l h'] : XOp P ts h (.store n a x) undef h' := ⟨rfl, by
  simp only [xop, e.eq, f.eq, k.eq, k.len, j.eq, t.eq, if_true]⟩
instance XOp.nilPtr {d : Addr} [e : Ev ts x (.pointer (some d))] : XOp P ts h (.nilCheck x) (.pointer (some d)) h := ⟨rfl, by simp only [xop, e.eq]⟩
instance XOp.nilFn {f : FuncId} {d g : Array Value} [e : Ev ts x (.func (.func f) d g)] : XOp P ts h (.nilCheck x) (.func (.func f) d g) h := ⟨rfl, by simp only [xop, e.eq]⟩
instance XOp.nilIf {t : TypeId} [e : Ev ts x (.iface t v)] : XOp P ts h (.nilCheck x) (.iface t v) h := ⟨rfl, by simp only [xop, e.eq]⟩
theorem xop_bin {op : BinOp} (e1 : eval ts x = .int K p) (e2 : eval ts y = .int K q) (hb : binInt op K p q = some v) : xop P (eval ts) h (.bin op O x y) = .ok v h := by
  simp only [xop, binOpV, e1, e2, hb, if_true]
instance (priority := high) XOp.addIn [e1 : Ev ts x (.int K p)] [e2 : Ev ts y (.int K q)] [j : InR K (p + q)] : XOp P ts h (.bin .add O x y) (.int K (p + q)) h := ⟨rfl, xop_bin e1.eq e2.eq (by simp only [binInt, j.eq])⟩
instance (priority := high) XOp.subIn [e1 : Ev ts x (.int K p)] [e2 : Ev ts y (.int K q)] [j : InR K (p - q)] : XOp P ts h (.bin .sub O x y) (.int K (p - q)) h := ⟨rfl, xop_bin e1.eq e2.eq (by simp only [binInt, j.eq])⟩
instance (priority := high) XOp.mulIn [e1 : Ev ts x (.int K p)] [e2 : Ev ts y (.int K q)] [j : InR K (p * q)] : XOp P ts h (.bin .mul O x y) (.int K (p * q)) h := ⟨rfl, xop_bin e1.eq e2.eq (by simp only [binInt, j.eq])⟩
instance XOp.add [e1 : Ev ts x (.int K p)] [e2 : Ev ts y (.int K q)] : XOp P ts h (.bin .add O x y) (.int K (K.wrap (p + q))) h := ⟨rfl, xop_bin e1.eq e2.eq rfl⟩
instance XOp.sub [e1 : Ev ts x (.int K p)] [e2 : Ev ts y (.int K q)] : XOp P ts h (.bin .sub O x y) (.int K (K.wrap (p - q))) h := ⟨rfl, xop_bin e1.eq e2.eq rfl⟩
instance XOp.mul [e1 : Ev ts x (.int K p)] [e2 : Ev ts y (.int K q)] : XOp P ts h (.bin .mul O x y) (.int K (K.wrap (p * q))) h := ⟨rfl, xop_bin e1.eq e2.eq rfl⟩
instance XOp.eqlI [e1 : Ev ts x (.int K p)] [e2 : Ev ts y (.int K q)] : XOp P ts h (.bin .eql O x y) (.bool (decide (p = q))) h := ⟨rfl, xop_bin e1.eq e2.eq (by simp only [binInt]; rfl)⟩
instance XOp.neqI [e1 : Ev ts x (.int K p)] [e2 : Ev ts y (.int K q)] : XOp P ts h (.bin .neq O x y) (.bool (!decide (p = q))) h := ⟨rfl, xop_bin e1.eq e2.eq (by simp only [binInt]; rfl)⟩
instance XOp.lssI [e1 : Ev ts x (.int K p)] [e2 : Ev ts y (.int K q)] : XOp P ts h (.bin .lss O x y) (.bool (decide (p < q))) h := ⟨rfl, xop_bin e1.eq e2.eq rfl⟩
instance XOp.leqI [e1 : Ev ts x (.int K p)] [e2 : Ev ts y (.int K q)] : XOp P ts h (.bin .leq O x y) (.bool (decide (p ≤ q))) h := ⟨rfl, xop_bin e1.eq e2.eq rfl⟩
instance XOp.gtrI [e1 : Ev ts x (.int K p)] [e2 : Ev ts y (.int K q)] : XOp P ts h (.bin .gtr O x y) (.bool (decide (q < p))) h := ⟨rfl, xop_bin e1.eq e2.eq rfl⟩
instance XOp.geqI [e1 : Ev ts x (.int K p)] [e2 : Ev ts y (.int K q)] : XOp P ts h (.bin .geq O x y) (.bool (decide (q ≤ p))) h := ⟨rfl, xop_bin e1.eq e2.eq rfl⟩
instance (priority := high) XOp.convIn [e : Ev ts x (.int J p)] [j : InR K p] : XOp P ts h (.conv K O x) (.int K p) h := ⟨rfl, by simp only [xop, e.eq, j.eq]⟩
instance XOp.conv [e : Ev ts x (.int J p)] : XOp P ts h (.conv K O x) (.int K (K.wrap p)) h := ⟨rfl, by simp only [xop, e.eq]⟩
instance XOp.eqlR {kind : EqKind} [e1 : Ev ts x u] [e2 : Ev ts y v] [j : EqV h kind u v A] : XOp P ts h (.eq kind false O x y) (.bool A) h := ⟨rfl, by simp only [xop, eqOpV, e1.eq, e2.eq, j.eq]; cases A <;> rfl⟩
instance XOp.neqR {kind : EqKind} [e1 : Ev ts x u] [e2 : Ev ts y v] [j : EqV h kind u v A] : XOp P ts h (.eq kind true O x y) (.bool (!A)) h := ⟨rfl, by simp only [xop, eqOpV, e1.eq, e2.eq, j.eq]; cases A <;> rfl⟩
instance XOp.fieldAddr0 {d : Addr} [e : Ev ts x (.pointer (some d))] : XOp P ts h (.fieldAddr 0 x) (.pointer (some d)) h := ⟨rfl, by simp only [xop, e.eq, if_true]⟩
instance XOp.fieldAddr [z : NZ off] [e : Ev ts x (.pointer (some ⟨r, o, sp⟩))] [j : AddN o off m] : XOp P ts h (.fieldAddr off x) (.pointer (some ⟨r, m, none⟩)) h := ⟨rfl, by
  simp only [xop, e.eq]; rw [if_neg z.ne, j.eq]⟩
instance XOp.field1 [e : Ev ts x (.agg ⟨l⟩)] [k : CGet l off v] : XOp P ts h (.field none off x) v h := ⟨rfl, by simp only [xop, e.eq, k.lt, k.eq, if_true]⟩
instance XOp.fieldN [e : Ev ts x (.agg ⟨l⟩)] [k : Sub l off n out] : XOp P ts h (.field (some n) off x) (.agg ⟨out⟩) h := ⟨rfl, by simp only [xop, e.eq, k.le, k.eq, if_true]⟩
instance XOp.extract [e : Ev ts x (.tuple ⟨l⟩)] [k : CGet l off v] : XOp P ts h (.extract off x) v h := ⟨rfl, by simp only [xop, e.eq, k.lt, k.eq, if_true]⟩
instance XOp.mkIface {t : TypeId} [e : Ev ts x v] : XOp P ts h (.mkIface t x) (.iface t v) h := ⟨rfl, by simp only [xop, e.eq]⟩
instance XOp.mkFunc {f : Fn} {xs ys : List Operand} [e : EvL ts xs l] [k : EvL ts ys l'] : XOp P ts h (.mkFunc f xs ys) (.func f ⟨l⟩ ⟨l'⟩) h := ⟨rfl, by simp only [xop, e.eq, k.eq]⟩
instance XOp.assert1 {t : TypeId} {z : Value} [e : Ev ts x (.iface t v)] : XOp P ts h (.assertTo t z false x) v h := ⟨rfl, by simp only [xop, e.eq, if_true]; rfl⟩
instance XOp.assert2 {t : TypeId} {z : Value} [e : Ev ts x (.iface t v)] : XOp P ts h (.assertTo t z true x) (.tuple ⟨[v, .bool true]⟩) h := ⟨rfl, by simp only [xop, e.eq, if_true]⟩
instance XOp.assertNil {t : TypeId} {z : Value} [e : Ev ts x .nilIface] : XOp P ts h (.assertTo t z true x) (.tuple ⟨[z, .bool false]⟩) h := ⟨rfl, by simp only [xop, e.eq, if_true]⟩
class EvP (ts : List Value) (ps : List (Nat × Nat × Operand)) (out : outParam (List (Nat × Nat × Value))) : Prop where
  eq : ps.map (fun p => (p.1, p.2.1, eval ts p.2.2)) = out
instance : EvP ts [] [] := ⟨rfl⟩
instance {ps : List (Nat × Nat × Operand)} {out : List (Nat × Nat × Value)} [e : Ev ts x v] [k : EvP ts ps out] : EvP ts ((o, n, x) :: ps) ((o, n, v) :: out) := ⟨by rw [List.map_cons, k.eq]; simp only [e.eq]⟩
class Fill (z : List Value) (ps : List (Nat × Nat × Value)) (out : outParam (List Value)) : Prop where
  eq : fillL z ps = some out
instance : Fill l [] l := ⟨rfl⟩
instance {z z' : List Value} {ps : List (Nat × Nat × Value)} [k : CellsOf v l] [j : LenN l n] [t : Over z o l z'] [f : Fill z' ps out] : Fill z ((o, n, v) :: ps) out := ⟨by
  simp only [fillL]
  rw [if_pos ⟨by rw [k.len, j.eq], by have := t.le; rw [j.eq] at this; exact this⟩, k.eq, t.eq, f.eq]⟩
instance XOp.build {z : List Value} {ps : List (Nat × Nat × Operand)} {vs : List (Nat × Nat × Value)} [e : EvP ts ps vs] [k : Fill z vs out] : XOp P ts h (.build z ps) (.agg ⟨out⟩) h := ⟨rfl, by simp only [xop, e.eq, k.eq]⟩
instance XOp.buildSlice {t : TypeId} {z : List Value} {ps : List (Nat × Nat × Operand)} {vs : List (Nat × Nat × Value)} [e : EvP ts ps vs] [k : Fill z vs out] :
    XOp P ts h (.buildSlice t z len ps) (.slice (some ⟨h.n, 0, none⟩) len len) (h.push (.cells out 0)) := ⟨rfl, by simp only [xop, e.eq, k.eq]⟩
instance XOp.lenStr {s : ByteArray} [e : Ev ts x (.string s)] : XOp P ts h (.lenStr x) (.int .i64 s.size) h := ⟨rfl, by simp only [xop, e.eq]⟩
instance XOp.lenSl {d : Option Addr} [e : Ev ts x (.slice d n m)] : XOp P ts h (.lenSl x) (.int .i64 n) h := ⟨rfl, by simp only [xop, e.eq]⟩
instance XOp.lenArr : XOp P ts h (.lenArr n) (.int .i64 n) h := ⟨rfl, rfl⟩
instance XOp.lenMap0 [e : Ev ts x (.map none)] : XOp P ts h (.lenMap x) (.int .i64 0) h := ⟨rfl, by simp only [xop, e.eq, mapAt]⟩
instance XOp.lenMap {es : List MapEntry} {clock : Nat} [e : Ev ts x (.map (some r))] [g : HGet h r (.map es clock)] : XOp P ts h (.lenMap x) (.int .i64 es.length) h := ⟨rfl, by simp only [xop, e.eq, mapAt, g.eq]⟩
instance XOp.cap0 [e : Ev ts x (.slice none n m)] : XOp P ts h (.cap x) (.int .i64 m) h := ⟨rfl, by simp only [xop, e.eq]⟩
instance XOp.cap [e : Ev ts x (.slice (some ⟨r, o, none⟩) n m)] : XOp P ts h (.cap x) (.int .i64 m) h := ⟨rfl, by simp only [xop, e.eq]⟩
instance XOp.mkMap : XOp P ts h .mkMap (.map (some h.n)) (h.push (.map [] 0)) := ⟨rfl, rfl⟩
instance XOp.rangeMap0 [e : Ev ts x (.map none)] : XOp P ts h (.rangeMap x) (.pointer (some ⟨h.n, 0, none⟩)) (h.push (.mapIter none 0 [] 0)) := ⟨rfl, by simp only [xop, e.eq, mapAt]⟩
instance XOp.rangeMap {es : List MapEntry} {clock : Nat} [e : Ev ts x (.map (some r))] [g : HGet h r (.map es clock)] : XOp P ts h (.rangeMap x) (.pointer (some ⟨h.n, 0, none⟩)) (h.push (.mapIter (some r) clock [] clock)) := ⟨rfl, by simp only [xop, e.eq, mapAt, g.eq]⟩
instance XOp.rangeStr {s : ByteArray} [e : Ev ts x (.string s)] : XOp P ts h (.rangeStr x) (.pointer (some ⟨h.n, 0, none⟩)) (h.push (.strIter s 0)) := ⟨rfl, by simp only [xop, e.eq]⟩
def bcells (l : List UInt8) : List Value := l.map fun b => .int .u8 b.toNat
theorem ofBytes_eq (s : ByteArray) : ofBytes s = bcells s.data.toList := rfl
theorem bytesOf_bcells : ∀ l : List UInt8, bytesOf (bcells l) = some l
  | [] => rfl
  | b :: l => by
    show (bytesOf (bcells l)).map _ = _
    rw [bytesOf_bcells l]; simp
class BytesOf (c : List Value) (l : outParam (List UInt8)) : Prop where
  eq : bytesOf c = some l
instance {l : List UInt8} : BytesOf (bcells l) l := ⟨bytesOf_bcells l⟩
instance : BytesOf [] [] := ⟨rfl⟩
theorem bytesOf_append : ∀ {c d : List Value} {l m : List UInt8}, bytesOf c = some l → bytesOf d = some m → bytesOf (c ++ d) = some (l ++ m)
  | [], d, l, m, h, k => by cases h; simpa using k
  | v :: c, d, l, m, h, k => by
    cases v with
    | int kk n =>
      cases kk with
      | u8 =>
        simp only [bytesOf] at h
        obtain ⟨l', h1, rfl⟩ := Option.map_eq_some_iff.1 h
        simp only [List.cons_append, bytesOf, bytesOf_append h1 k, Option.map_some]
      | _ => simp [bytesOf] at h
    | _ => simp [bytesOf] at h
instance {c d : List Value} {l m : List UInt8} [h : BytesOf c l] [k : BytesOf d m] : BytesOf (c ++ d) (l ++ m) := ⟨bytesOf_append h.eq k.eq⟩
instance {p : Int} {d : List Value} {m : List UInt8} [k : BytesOf d m] : BytesOf (.int .u8 p :: d) (UInt8.ofNat p.toNat :: m) := ⟨by simp only [bytesOf, k.eq, Option.map_some]⟩
instance XOp.bytesToStr0 [e : Ev ts x (.slice none n m)] : XOp P ts h (.bytesToStr x) (.string .empty) h := ⟨rfl, by simp only [xop, e.eq]⟩
instance XOp.bytesToStr {bs : List UInt8} [e : Ev ts x (.slice (some ⟨r, o, sp⟩) n m)] [k : Cells h r o n l] [j : BytesOf l bs] : XOp P ts h (.bytesToStr x) (.string ⟨⟨bs⟩⟩) h := ⟨rfl, by
  simp only [xop, e.eq, k.eq, Option.bind_some, j.eq]⟩
instance XOp.strToBytes {t : TypeId} {s : ByteArray} [e : Ev ts x (.string s)] : XOp P ts h (.strToBytes t x) (.slice (some ⟨h.n, 0, some 1⟩) s.size s.size) (h.push (.cells (bcells s.data.toList) 1)) := ⟨rfl, by
  simp only [xop, e.eq, ofBytes_eq]⟩
end
section
variable {P : Program} {ts : List Value} {h h' : Heap} {x y a b c i : Operand} {u v w : Value} {l l' out : List Value} {o n k size len r off m : Nat} {sp : Option Nat} {K J : IntKind} {p q : Int} {O : Oper} {A B : Bool}
theorem idx_in {len : Nat} {K : IntKind} {p : Int} (hb : 0 ≤ p ∧ p < len) : idx len (.int K p) = some p.toNat := by simp only [idx, if_pos hb]
theorem XOp.mkIndexArr (hb : 0 ≤ p ∧ p < len) [e : Ev ts x (.pointer (some ⟨r, o, sp⟩))] [f : Ev ts i (.int K p)] [j : IdxOff o p size m] : XOp P ts h (.indexArr len size x i) (.pointer (some ⟨r, m, none⟩)) h := ⟨rfl, by
  simp only [xop, e.eq, f.eq, idx_in hb, j.eq]⟩
theorem XOp.mkIndexSl (hb : 0 ≤ p ∧ p < len) [e : Ev ts x (.slice (some ⟨r, o, sp⟩) len n)] [f : Ev ts i (.int K p)] [j : IdxOff o p size m] : XOp P ts h (.indexSl size x i) (.pointer (some ⟨r, m, none⟩)) h := ⟨rfl, by
  simp only [xop, e.eq, f.eq, idx_in hb, j.eq]⟩
end
theorem bcells_get {l : List UInt8} {k : Nat} (hk : k < l.length) : CGet (bcells l) k (.int .u8 (l.getD k 0).toNat) := by
  refine ⟨?_, by simpa [bcells] using hk⟩
  induction l generalizing k with
  | nil => simp at hk
  | cons a l ih =>
    cases k with
    | zero => rfl
    | succ k => exact ih (by simpa using hk)
inductive TT where
  | nil
  | node (l : TT) (k : Nat) (v : AFunc) (r : TT)
def TT.get : TT → Nat → Option AFunc
  | .nil, _ => none
  | .node l k v r, f => if f < k then l.get f else if k < f then r.get f else some v
def TT.All (P : Program) : TT → Prop
  | .nil => True
  | .node l k v r => tableOf P k = some v ∧ l.All P ∧ r.All P
def so (op : Op) (t : TypeId) : Oper := { dst := none, op, type := t, pos := "", after := #[], guard := none }
def subCode : Option Code → List Bool → Option Code
  | c, [] => c
  | some (.seq a _), false :: r => subCode (some a) r
  | some (.seq _ b), true :: r => subCode (some b) r
  | some (.cond _ a _), false :: r => subCode (some a) r
  | some (.cond _ _ b), true :: r => subCode (some b) r
  | some (.block _ b), false :: r => subCode (some b) r
  | some (.loop b), false :: r => subCode (some b) r
  | some (.scope b), false :: r => subCode (some b) r
  | _, _ => none
def rangeParts : Option Code → Code × Code
  | some (.rangeFunc _ _ a b) => (a, b)
  | _ => (.skip, .skip)
section
variable {P : Program} {T : Table} {ts ts' : List Value} {ds : List Deferred} {h h' : Heap} {rd : Option Nat} {op : AOp} {v : Value} {d : Nat} {chk : List (Option Nat × AOp × Option (Nat × Bool))} {pan : Bool} {rest : List AOper} {Q : QP}
theorem O.one [k : XOp P ts h op v h'] [s : LSet ts d v ts'] (hr : RunO P T rest ⟨ts', ds, h', rd⟩ Q) : RunO P T (⟨some d, op, none, chk, pan⟩ :: rest) ⟨ts, ds, h, rd⟩ Q :=
  RunO.cons rfl k.nd (RunX.ok k.run (by show RunO P T rest ⟨lset ts d v, ds, h', rd⟩ Q; rw [s.eq]; exact hr))
theorem O.one0 [k : XOp P ts h op v h'] (hr : RunO P T rest ⟨ts, ds, h', rd⟩ Q) : RunO P T (⟨none, op, none, chk, pan⟩ :: rest) ⟨ts, ds, h, rd⟩ Q :=
  RunO.cons rfl k.nd (RunX.ok k.run hr)
theorem O.oneT {t : Nat} {b : Bool} [g : LGet ts t (.bool b)] [k : XOp P ts h op v h'] [s : LSet ts d v ts'] (hr : RunO P T rest ⟨ts', ds, h', rd⟩ Q) : RunO P T (⟨some d, op, some (t, b), chk, pan⟩ :: rest) ⟨ts, ds, h, rd⟩ Q :=
  RunO.cons (by simp only [wantedT, g.eq]; cases b <;> rfl) k.nd (RunX.ok k.run (by show RunO P T rest ⟨lset ts d v, ds, h', rd⟩ Q; rw [s.eq]; exact hr))
theorem O.skT {t : Nat} [g : LGet ts t (.bool false)] [s : LSet ts d undef ts'] (hr : RunO P T rest ⟨ts', ds, h, rd⟩ Q) : RunO P T (⟨some d, op, some (t, true), chk, pan⟩ :: rest) ⟨ts, ds, h, rd⟩ Q :=
  RunO.skip (by simp only [wantedT, g.eq]; rfl) (by show RunO P T rest ⟨lset ts d undef, ds, h, rd⟩ Q; rw [s.eq]; exact hr)
theorem O.skF {t : Nat} [g : LGet ts t (.bool true)] [s : LSet ts d undef ts'] (hr : RunO P T rest ⟨ts', ds, h, rd⟩ Q) : RunO P T (⟨some d, op, some (t, false), chk, pan⟩ :: rest) ⟨ts, ds, h, rd⟩ Q :=
  RunO.skip (by simp only [wantedT, g.eq]; rfl) (by show RunO P T rest ⟨lset ts d undef, ds, h, rd⟩ Q; rw [s.eq]; exact hr)
theorem O.nil (hq : Q .normal ⟨ts, ds, h, rd⟩) : RunO P T [] ⟨ts, ds, h, rd⟩ Q := RunO.nil hq
theorem O.how (k : XOp P ts h op v h') [s : LSet ts d v ts'] (hr : RunO P T rest ⟨ts', ds, h', rd⟩ Q) : RunO P T (⟨some d, op, none, chk, pan⟩ :: rest) ⟨ts, ds, h, rd⟩ Q := O.one hr
theorem O.howT {t : Nat} {b : Bool} (k : XOp P ts h op v h') [g : LGet ts t (.bool b)] [s : LSet ts d v ts'] (hr : RunO P T rest ⟨ts', ds, h', rd⟩ Q) : RunO P T (⟨some d, op, some (t, b), chk, pan⟩ :: rest) ⟨ts, ds, h, rd⟩ Q := O.oneT hr
theorem O.by (hx : xop P (eval ts) h op = .ok v h') (hp : op.plain = true := by rfl) [s : LSet ts d v ts'] (hr : RunO P T rest ⟨ts', ds, h', rd⟩ Q) : RunO P T (⟨some d, op, none, chk, pan⟩ :: rest) ⟨ts, ds, h, rd⟩ Q :=
  @O.one P T ts ts' ds h h' rd op v d chk pan rest Q ⟨hp, hx⟩ s hr
theorem O.call {f : Operand} {args : List Operand} {fid : FuncId} {first captured vs : List Value} [e : Ev ts f (.func (.func fid) ⟨first⟩ ⟨captured⟩)] [k : EvL ts args vs] {R : RP} {X : XP}
    (hr : Runs P T (.fn fid) (first ++ vs ++ captured) h R X) (hk : ∀ v h', R v h' → RunO P T rest ⟨lset ts d v, ds, h', rd⟩ Q) (hx : ∀ c h', X c h' → Q (.panic c) ⟨ts, ds, h', rd⟩) :
    RunO P T (⟨some d, .callV f args, none, chk, pan⟩ :: rest) ⟨ts, ds, h, rd⟩ Q :=
  RunO.cons rfl (fun _ _ e => by cases e) (RunX.call (by simp only [e.eq, k.eq, target]) (hr.mono hk hx))
theorem D.one [k : XOp P ts h op v h'] [s : LSet ts d v ts'] (hc : chk.all (stable P ts' h') = true := by rfl) (hr : RunD P T rest ⟨ts', ds, h', rd⟩ Q) : RunD P T (⟨some d, op, none, chk, pan⟩ :: rest) ⟨ts, ds, h, rd⟩ Q :=
  RunD.cons rfl (RunX.ok k.run (by
    show chk.all (stable P (lset ts d v) h') = true ∧ RunD P T rest ⟨lset ts d v, ds, h', rd⟩ Q
    rw [s.eq]; exact ⟨hc, hr⟩))
theorem D.one0 [k : XOp P ts h op v h'] (hc : chk.all (stable P ts h') = true := by rfl) (hr : RunD P T rest ⟨ts, ds, h', rd⟩ Q) : RunD P T (⟨none, op, none, chk, pan⟩ :: rest) ⟨ts, ds, h, rd⟩ Q :=
  RunD.cons rfl (RunX.ok k.run ⟨hc, hr⟩)
theorem D.oneT {t : Nat} {b : Bool} [g : LGet ts t (.bool b)] [k : XOp P ts h op v h'] [s : LSet ts d v ts'] (hc : chk.all (stable P ts' h') = true := by rfl) (hr : RunD P T rest ⟨ts', ds, h', rd⟩ Q) : RunD P T (⟨some d, op, some (t, b), chk, pan⟩ :: rest) ⟨ts, ds, h, rd⟩ Q :=
  RunD.cons (by simp only [wantedT, g.eq]; cases b <;> rfl) (RunX.ok k.run (by
    show chk.all (stable P (lset ts d v) h') = true ∧ RunD P T rest ⟨lset ts d v, ds, h', rd⟩ Q
    rw [s.eq]; exact ⟨hc, hr⟩))
theorem D.how (k : XOp P ts h op v h') [s : LSet ts d v ts'] (hc : chk.all (stable P ts' h') = true := by rfl) (hr : RunD P T rest ⟨ts', ds, h', rd⟩ Q) : RunD P T (⟨some d, op, none, chk, pan⟩ :: rest) ⟨ts, ds, h, rd⟩ Q := D.one hc hr
theorem D.nil (hq : Q .normal ⟨ts, ds, h, rd⟩) : RunD P T [] ⟨ts, ds, h, rd⟩ Q := RunD.nil hq
variable {a b : ACode}
theorem C.next (hr : RunC P T b ⟨ts, ds, h, rd⟩ Q) : thenQ P T b Q .normal ⟨ts, ds, h, rd⟩ := thenQ.next hr
theorem C.ret2 {s : St} (hr : Q .ret s) : thenQ P T b Q .ret s := thenQ.ret hr
theorem C.exit2 {s : St} {j : Nat} (hr : Q (.exit j) s) : thenQ P T b Q (.exit j) s := thenQ.exit hr
theorem C.pan2 {s : St} {c : List PanicEntry} (hr : Q (.panic c) s) : thenQ P T b Q (.panic c) s := thenQ.panic hr
theorem C.nextB {s : St} {id : Nat} (hr : Q .normal s) : blockQ id Q .normal s := blockQ.next hr
theorem C.retB {s : St} {id : Nat} (hr : Q .ret s) : blockQ id Q .ret s := blockQ.ret hr
theorem C.panB {s : St} {id : Nat} {c : List PanicEntry} (hr : Q (.panic c) s) : blockQ id Q (.panic c) s := blockQ.panic hr
theorem C.exitB {s : St} {id : Nat} (hr : Q .normal s) : blockQ id Q (.exit id) s := blockQ.exit hr
theorem C.exitN {s : St} {id j : Nat} (hne : j ≠ id) (hr : Q (.exit j) s) : blockQ id Q (.exit j) s := blockQ.pass hne hr
theorem C.if {c : Operand} {t e : ACode} {p : Prop} [Decidable p] [k : Ev ts c (.bool (decide p))] (ht : p → RunC P T t ⟨ts, ds, h, rd⟩ Q) (he : ¬ p → RunC P T e ⟨ts, ds, h, rd⟩ Q) : RunC P T (.cond c t e) ⟨ts, ds, h, rd⟩ Q :=
  RunC.cond k.eq (fun h => ht (of_decide_eq_true h)) (fun h => he (of_decide_eq_false h))
theorem C.ifT {c : Operand} {t e : ACode} [k : Ev ts c (.bool true)] (ht : RunC P T t ⟨ts, ds, h, rd⟩ Q) : RunC P T (.cond c t e) ⟨ts, ds, h, rd⟩ Q := RunC.condT k.eq ht
theorem C.ifF {c : Operand} {t e : ACode} [k : Ev ts c (.bool false)] (ht : RunC P T e ⟨ts, ds, h, rd⟩ Q) : RunC P T (.cond c t e) ⟨ts, ds, h, rd⟩ Q := RunC.condF k.eq ht
theorem C.ifB {c : Operand} {t e : ACode} {A : Bool} [k : Ev ts c (.bool A)] (ht : A = true → RunC P T t ⟨ts, ds, h, rd⟩ Q) (he : A = false → RunC P T e ⟨ts, ds, h, rd⟩ Q) : RunC P T (.cond c t e) ⟨ts, ds, h, rd⟩ Q := RunC.cond k.eq ht he
class ResL (h : Heap) (ts : List Value) (rs : List (Nat × Option (Option Nat))) (out : outParam (List Value)) : Prop where
  eq : resVals h ts rs = some out
instance : ResL h ts [] [] := ⟨rfl⟩
instance {t : Nat} {rs : List (Nat × Option (Option Nat))} {out : List Value} [e : LGet ts t v] [k : ResL h ts rs out] : ResL h ts ((t, none) :: rs) (v :: out) := ⟨by simp only [resVals, k.eq, e.eq, Option.map_some]⟩
instance {t r o : Nat} {sp : Option Nat} {rs : List (Nat × Option (Option Nat))} {out : List Value} [e : LGet ts t (.pointer (some ⟨r, o, sp⟩))] [c : Cell h r o v] [k : ResL h ts rs out] : ResL h ts ((t, some none) :: rs) (v :: out) := ⟨by
  simp only [resVals, k.eq, e.eq, c.eq]⟩
instance {t r o n : Nat} {sp : Option Nat} {rs : List (Nat × Option (Option Nat))} {out l : List Value} [e : LGet ts t (.pointer (some ⟨r, o, sp⟩))] [c : Cells h r o n l] [k : ResL h ts rs out] : ResL h ts ((t, some (some n)) :: rs) (.agg ⟨l⟩ :: out) := ⟨by
  simp only [resVals, k.eq, e.eq, c.eq, Option.map_some]⟩
class ResO (h : Heap) (ts : List Value) (rs : List (Nat × Option (Option Nat))) (v : outParam Value) : Prop where
  eq : resOf h ts rs = some v
instance : ResO h ts [] (.tuple ⟨[]⟩) := ⟨rfl⟩
instance {r : Nat × Option (Option Nat)} [k : ResL h ts [r] [v]] : ResO h ts [r] v := ⟨by simp only [resOf, k.eq]⟩
instance {r s : Nat × Option (Option Nat)} {rs : List (Nat × Option (Option Nat))} {x y : Value} {out : List Value} [k : ResL h ts (r :: s :: rs) (x :: y :: out)] : ResO h ts (r :: s :: rs) (.tuple ⟨x :: y :: out⟩) := ⟨by simp only [resOf, k.eq]⟩
variable {rs : List (Nat × Option (Option Nat))} {R : RP} {X : XP}
theorem B.ret [k : ResO h ts rs v] (hr : R v h) : bodyQ P T rs R X .ret ⟨ts, [], h, rd⟩ := bodyQ.onRet (RunL.nil k.eq hr)
theorem B.end [k : ResO h ts rs v] (hr : R v h) : bodyQ P T rs R X .normal ⟨ts, [], h, rd⟩ := bodyQ.onEnd (RunL.nil k.eq hr)
theorem B.panic {c : List PanicEntry} (hr : X c h) : bodyQ P T rs R X (.panic c) ⟨ts, [], h, rd⟩ := bodyQ.onPanic (RunL.pan hr)
end
end Go.Vm

/- A small machine over an abstract heap: numbers, frames, calls, slices that grow. -/
set_option linter.unusedSimpArgs false
set_option linter.unusedVariables false
namespace Go.Vm
open Go.IntWalk
theorem inr_i64 {n : Int} (h : -9223372036854775808 ≤ n ∧ n ≤ 9223372036854775807) : InR .i64 n := ⟨i64_in n h⟩
theorem inr_u64 {n : Int} (h : 0 ≤ n ∧ n ≤ 18446744073709551615) : InR .u64 n := ⟨u64_in n h⟩
theorem inr_u8 {n : Int} (h : 0 ≤ n ∧ n ≤ 255) : InR .u8 n := ⟨u8_in n h⟩
theorem wrap_u8 (n : Int) : IntKind.u8.wrap n = n % 256 := IntKind.wrap_u8 n
theorem wrap_u32 (n : Int) : IntKind.u32.wrap n = n % 4294967296 := IntKind.wrap_u32 n
theorem wrap_u64 (n : Int) : IntKind.u64.wrap n = n % 18446744073709551616 := by
  unfold IntKind.wrap
  simp [IntKind.bits, IntKind.signed]
section
variable {P : Program} {ts : List Value} {h h' : Heap} {x y a b c i : Operand} {u v w : Value} {l l' out : List Value} {o n k size len r off m : Nat} {sp : Option Nat} {K J : IntKind} {p q : Int} {O : Oper} {A B : Bool}
theorem XOp.addI (hb : -9223372036854775808 ≤ p + q ∧ p + q ≤ 9223372036854775807) [e1 : Ev ts x (.int .i64 p)] [e2 : Ev ts y (.int .i64 q)] : XOp P ts h (.bin .add O x y) (.int .i64 (p + q)) h := by
  haveI := inr_i64 hb; exact XOp.addIn
theorem XOp.subI (hb : -9223372036854775808 ≤ p - q ∧ p - q ≤ 9223372036854775807) [e1 : Ev ts x (.int .i64 p)] [e2 : Ev ts y (.int .i64 q)] : XOp P ts h (.bin .sub O x y) (.int .i64 (p - q)) h := by
  haveI := inr_i64 hb; exact XOp.subIn
theorem XOp.convI (hb : -9223372036854775808 ≤ p ∧ p ≤ 9223372036854775807) [e1 : Ev ts x (.int J p)] : XOp P ts h (.conv .i64 O x) (.int .i64 p) h := by
  haveI := inr_i64 hb; exact XOp.convIn
theorem XOp.convU8 (hb : 0 ≤ p ∧ p ≤ 255) [e1 : Ev ts x (.int J p)] : XOp P ts h (.conv .u8 O x) (.int .u8 p) h := by
  haveI := inr_u8 hb; exact XOp.convIn
theorem XOp.convU64 (hb : 0 ≤ p ∧ p ≤ 18446744073709551615) [e1 : Ev ts x (.int J p)] : XOp P ts h (.conv .u64 O x) (.int .u64 p) h := by
  haveI := inr_u64 hb; exact XOp.convIn
theorem raw_ok {e : Operand → Value} (hg : O.op.operands.toList.all (fun x => ground (e x)) = true) (hp : pr P (execOp e O) = some (.ok (.value v))) (hv : ground v = true) : rawOp P e O h = .ok v h := by
  unfold rawOp
  rw [if_pos hg, hp]
  simp only [hv, if_true]
instance XOp.notB {t ty : TypeId} [e : Ev ts x (.bool A)] : XOp P ts h (.raw (so (.unOp .not t x) ty)) (.bool (!A)) h := ⟨rfl, raw_ok (by simp [so, Op.operands, e.eq, ground]) (by simp only [execOp, so, e.eq]; rfl) rfl⟩
instance XOp.negI {t ty : TypeId} [e : Ev ts x (.int K p)] : XOp P ts h (.raw (so (.unOp .neg t x) ty)) (.int K (K.wrap (0 - p))) h := ⟨rfl, raw_ok (by simp [so, Op.operands, e.eq, ground]) (by simp only [execOp, so, e.eq]; rfl) rfl⟩
theorem bin_raw {op : BinOp} (hn : ∀ k a b, u = .int k a → v = .int k b → binInt op k a b = none) (e1 : eval ts x = u) (e2 : eval ts y = v) : xop P (eval ts) h (.bin op O x y) = rawOp P (eval ts) O h := by
  simp only [xop, binOpV, e1, e2]
  cases u <;> cases v <;> try rfl
  rename_i k a k' b
  simp only
  split
  · rename_i hk
    subst hk
    rw [hn k a b rfl rfl]
  · rfl
section
variable {t t' ty : TypeId}
theorem raw_bin {op : BinOp} (e1 : eval ts x = u) (e2 : eval ts y = v) (h1 : ground u = true) (h2 : ground v = true) (hp : pr P (do eqGuard op t x y u v; binOp op t u v) = some (.ok w)) (hw : ground w = true) :
    rawOp P (eval ts) (so (.binOp op t x y t') ty) h = .ok w h := by
  refine raw_ok (by simp [so, Op.operands, e1, e2, h1, h2]) ?_ hw
  simp only [execOp, so, e1, e2]
  have hb : ∀ (s : Sem Value) (k : Value → Sem Next), pr P s = some (.ok w) → pr P (s >>= k) = pr P (k w) := by
    intro s
    induction s with
    | pure a => intro k hs; simp [pr] at hs; subst hs; rfl
    | program f ih => intro k hs; exact ih P k hs
    | halt x => intro k hs; cases x <;> simp [pr] at hs
    | _ => intro k hs; simp [pr] at hs
  exact hb _ _ hp
instance XOp.eqlS {s s' : ByteArray} [e1 : Ev ts x (.string s)] [e2 : Ev ts y (.string s')] : XOp P ts h (.bin .eql (so (.binOp .eql t x y t') ty) x y) (.bool (s.toList == s'.toList)) h :=
  ⟨rfl, (bin_raw (by intro k a b hu; cases hu) e1.eq e2.eq).trans (raw_bin e1.eq e2.eq rfl rfl rfl rfl)⟩
instance XOp.neqS {s s' : ByteArray} [e1 : Ev ts x (.string s)] [e2 : Ev ts y (.string s')] : XOp P ts h (.bin .neq (so (.binOp .neq t x y t') ty) x y) (.bool (!(s.toList == s'.toList))) h :=
  ⟨rfl, (bin_raw (by intro k a b hu; cases hu) e1.eq e2.eq).trans (raw_bin e1.eq e2.eq rfl rfl rfl rfl)⟩
end
theorem pr_bind {α β : Type} {P : Program} {s : Sem α} {k : α → Sem β} {a : α} (h : pr P s = some (.ok a)) : pr P (s >>= k) = pr P (k a) := by
  induction s with
  | pure b => simp [pr] at h; subst h; rfl
  | program f ih => exact ih P h
  | halt x => cases x <;> simp [pr] at h
  | _ => simp [pr] at h
theorem pr_under {P : Program} {t : TypeId} {d : TypeDesc} (h : P.underlying t = some d) : pr P (underlying t) = some (.ok d) := by
  unfold underlying
  rw [pr_bind (a := P) rfl]
  rw [h]
  rfl
def isIface (P : Program) (t : TypeId) : Bool := match P.underlying t with
  | some (.interface _) => true
  | _ => false
class IsIface (P : Program) (t : TypeId) : Prop where
  eq : isIface P t = true
theorem pr_eq_nil {P : Program} {t : TypeId} (h : IsIface P t) : pr P (Op.equal t .nilIface .nilIface) = some (.ok true) := by
  have := h.eq
  unfold isIface at this
  split at this
  · rename_i ms hm
    unfold Op.equal
    show pr P (Op.equalIn (9999 + 1) t .nilIface .nilIface) = _
    rw [Op.equalIn]
    rw [pr_bind (pr_under hm)]
    rfl
  · cases this
theorem pr_guard_nil {P : Program} {op : BinOp} {t : TypeId} {x : Operand} : pr P (eqGuard op t x (.const .nilIface) .nilIface .nilIface) = some (.ok ()) := by
  unfold eqGuard
  cases op <;> first | rfl | (cases x <;> rfl)
instance XOp.eqNilIf {t t' ty : TypeId} [e : Ev ts x .nilIface] [i : IsIface P t] : XOp P ts h (.eq .iface false (so (.binOp .eql t x (.const .nilIface) t') ty) x (.const .nilIface)) (.bool true) h := ⟨rfl, by
  have e2 : eval ts (.const .nilIface) = .nilIface := rfl
  simp only [xop, eqOpV, e.eq, e2]
  exact raw_bin e.eq e2 rfl rfl (by rw [pr_bind pr_guard_nil]; show pr P (Op.equal t .nilIface .nilIface >>= fun b => (pure (Value.bool b) : Sem Value)) = _; rw [pr_bind (pr_eq_nil i)]; rfl) rfl⟩
instance XOp.neNilIf {t t' ty : TypeId} [e : Ev ts x .nilIface] [i : IsIface P t] : XOp P ts h (.eq .iface true (so (.binOp .neq t x (.const .nilIface) t') ty) x (.const .nilIface)) (.bool false) h := ⟨rfl, by
  have e2 : eval ts (.const .nilIface) = .nilIface := rfl
  simp only [xop, eqOpV, e.eq, e2]
  exact raw_bin e.eq e2 rfl rfl (by rw [pr_bind pr_guard_nil]; show pr P (Op.equal t .nilIface .nilIface >>= fun b => (pure (Value.bool !b) : Sem Value)) = _; rw [pr_bind (pr_eq_nil i)]; rfl) rfl⟩
end
class LSetF (l : List Value) (i : Nat) (f : outParam (Value → List Value)) : Prop where
  eq : ∀ v, lset l i v = f v
section
variable {a0 a1 a2 a3 a4 a5 a6 a7 : Value} {l : List Value} {f : Value → List Value} {i : Nat}
instance LSetF.i0 : LSetF (a0 :: l) 0 (fun v => v :: l) := ⟨fun _ => rfl⟩
instance LSetF.i1 : LSetF (a0 :: a1 :: l) 1 (fun v => a0 :: v :: l) := ⟨fun _ => rfl⟩
instance LSetF.i2 : LSetF (a0 :: a1 :: a2 :: l) 2 (fun v => a0 :: a1 :: v :: l) := ⟨fun _ => rfl⟩
instance LSetF.i3 : LSetF (a0 :: a1 :: a2 :: a3 :: l) 3 (fun v => a0 :: a1 :: a2 :: v :: l) := ⟨fun _ => rfl⟩
instance LSetF.i4 : LSetF (a0 :: a1 :: a2 :: a3 :: a4 :: l) 4 (fun v => a0 :: a1 :: a2 :: a3 :: v :: l) := ⟨fun _ => rfl⟩
instance LSetF.i5 : LSetF (a0 :: a1 :: a2 :: a3 :: a4 :: a5 :: l) 5 (fun v => a0 :: a1 :: a2 :: a3 :: a4 :: v :: l) := ⟨fun _ => rfl⟩
instance LSetF.i6 : LSetF (a0 :: a1 :: a2 :: a3 :: a4 :: a5 :: a6 :: l) 6 (fun v => a0 :: a1 :: a2 :: a3 :: a4 :: a5 :: v :: l) := ⟨fun _ => rfl⟩
instance LSetF.i7 : LSetF (a0 :: a1 :: a2 :: a3 :: a4 :: a5 :: a6 :: a7 :: l) 7 (fun v => a0 :: a1 :: a2 :: a3 :: a4 :: a5 :: a6 :: v :: l) := ⟨fun _ => rfl⟩
instance LSetF.j8 [h : LSetF l i f] : LSetF (a0 :: a1 :: a2 :: a3 :: a4 :: a5 :: a6 :: a7 :: l) (i + 8) (fun v => a0 :: a1 :: a2 :: a3 :: a4 :: a5 :: a6 :: a7 :: f v) := ⟨fun v => by show _ :: _ :: _ :: _ :: _ :: _ :: _ :: _ :: lset l i v = _; rw [h.eq]⟩
end
class App2 (a b : List Value) (c : outParam (List Value)) : Prop where
  eq : a ++ b = c
instance {b : List Value} : App2 [] b b := ⟨rfl⟩
instance {v : Value} {a b c : List Value} [h : App2 a b c] : App2 (v :: a) b (v :: c) := ⟨by rw [List.cons_append, h.eq]⟩
instance (priority := low) {a b : List Value} : App2 a b (a ++ b) := ⟨rfl⟩
section
variable {P : Program} {T : Table} {ts ts' : List Value} {ds : List Deferred} {h h' : Heap} {rd : Option Nat} {op : AOp} {v : Value} {d : Nat} {chk : List (Option Nat × AOp × Option (Nat × Bool))} {pan : Bool} {rest : List AOper} {Q : QP} {F : Value → List Value}
theorem O.call' {f : Operand} {args : List Operand} {fid : FuncId} {first captured vs mid all : List Value} [e : Ev ts f (.func (.func fid) ⟨first⟩ ⟨captured⟩)] [k : EvL ts args vs] [a1 : App2 first vs mid] [a2 : App2 mid captured all] [s : LSetF ts d F] {R : RP}
    (hr : Runs P T (.fn fid) all h R (fun _ _ => False)) (hk : ∀ v h', R v h' → RunO P T rest ⟨F v, ds, h', rd⟩ Q) :
    RunO P T (⟨some d, .callV f args, none, chk, pan⟩ :: rest) ⟨ts, ds, h, rd⟩ Q :=
  O.call (R := R) (X := fun _ _ => False) (by rw [a1.eq, a2.eq]; exact hr) (fun v h' hv => by rw [s.eq]; exact hk v h' hv) (fun _ _ hx => hx.elim)
theorem O.callX {f : Operand} {args : List Operand} {fid : FuncId} {first captured vs mid all : List Value} [e : Ev ts f (.func (.func fid) ⟨first⟩ ⟨captured⟩)] [k : EvL ts args vs] [a1 : App2 first vs mid] [a2 : App2 mid captured all] [s : LSetF ts d F] {R : RP} {X : XP}
    (hr : Runs P T (.fn fid) all h R X) (hk : ∀ v h', R v h' → RunO P T rest ⟨F v, ds, h', rd⟩ Q) (hx : ∀ c h', X c h' → Q (.panic c) ⟨ts, ds, h', rd⟩) :
    RunO P T (⟨some d, .callV f args, none, chk, pan⟩ :: rest) ⟨ts, ds, h, rd⟩ Q :=
  O.call (R := R) (X := X) (by rw [a1.eq, a2.eq]; exact hr) (fun v h' hv => by rw [s.eq]; exact hk v h' hv) hx
theorem D.callX {f : Operand} {args : List Operand} {fid : FuncId} {first captured vs mid all : List Value} [e : Ev ts f (.func (.func fid) ⟨first⟩ ⟨captured⟩)] [k : EvL ts args vs] [a1 : App2 first vs mid] [a2 : App2 mid captured all] [s : LSetF ts d F] {R : RP} {X : XP}
    (hr : Runs P T (.fn fid) all h R X) (hc : ∀ v h', R v h' → chk.all (stable P (F v) h') = true) (hk : ∀ v h', R v h' → RunD P T rest ⟨F v, ds, h', rd⟩ Q) (hx : ∀ c h', X c h' → pan = true ∧ Q (.panic c) ⟨ts, ds, h', rd⟩) :
    RunD P T (⟨some d, .callV f args, none, chk, pan⟩ :: rest) ⟨ts, ds, h, rd⟩ Q :=
  RunD.cons rfl (RunX.call (t := .fn fid) (vs := all) (by simp only [e.eq, k.eq, target]; rw [← a2.eq, ← a1.eq]) (Runs.mono hr (fun v h' hv => by
    show chk.all (stable P (lset ts d v) h') = true ∧ RunD P T rest ⟨lset ts d v, ds, h', rd⟩ Q
    rw [s.eq]; exact ⟨hc v h' hv, hk v h' hv⟩) hx))
theorem O.panic {x : Operand} {t : TypeId} {dst : Option Nat} [e : Ev ts x (.iface t v)] (hq : Q (.panic [{ v := .iface t v, recovered := false }]) ⟨ts, ds, h, rd⟩) : RunO P T (⟨dst, .panic x, none, chk, pan⟩ :: rest) ⟨ts, ds, h, rd⟩ Q :=
  RunO.cons rfl (fun _ _ e => by cases e) (RunX.pan (fun call => by rw [xo_plain rfl]; simp only [xop, e.eq]) hq)
theorem O.dec {t : Nat} {w : Bool} {dst : Option Nat} {p : Prop} [Decidable p] {tT tF : List Value} [g : LGet ts t (.bool (decide p))] [s1 : LSet ts t (.bool true) tT] [s2 : LSet ts t (.bool false) tF]
    (hT : p → RunO P T (⟨dst, op, some (t, w), chk, pan⟩ :: rest) ⟨tT, ds, h, rd⟩ Q) (hF : ¬ p → RunO P T (⟨dst, op, some (t, w), chk, pan⟩ :: rest) ⟨tF, ds, h, rd⟩ Q) :
    RunO P T (⟨dst, op, some (t, w), chk, pan⟩ :: rest) ⟨ts, ds, h, rd⟩ Q := by
  have same : ∀ (l : List Value) (i : Nat), lset l i (lget l i) = l := by
    intro l
    induction l with
    | nil => intro i; rfl
    | cons a l ih => intro i; cases i with
      | zero => rfl
      | succ i => simp only [lset, lget, ih]
  have hs := same ts t
  rw [g.eq] at hs
  by_cases hp : p
  · rw [decide_eq_true hp, s1.eq] at hs
    rw [← hs]; exact hT hp
  · rw [decide_eq_false hp, s2.eq] at hs
    rw [← hs]; exact hF hp
theorem O.decN {t : Nat} {w : Bool} {dst : Option Nat} {p : Prop} [Decidable p] {tT tF : List Value} [g : LGet ts t (.bool (!decide p))] [s1 : LSet ts t (.bool true) tT] [s2 : LSet ts t (.bool false) tF]
    (hT : ¬ p → RunO P T (⟨dst, op, some (t, w), chk, pan⟩ :: rest) ⟨tT, ds, h, rd⟩ Q) (hF : p → RunO P T (⟨dst, op, some (t, w), chk, pan⟩ :: rest) ⟨tF, ds, h, rd⟩ Q) :
    RunO P T (⟨dst, op, some (t, w), chk, pan⟩ :: rest) ⟨ts, ds, h, rd⟩ Q := by
  haveI : LGet ts t (.bool (decide (¬ p))) := ⟨by rw [g.eq]; simp, g.lt⟩
  exact O.dec (p := ¬ p) hT fun h => hF (Classical.not_not.1 h)
theorem O.decB {t : Nat} {w A : Bool} {dst : Option Nat} {tT tF : List Value} [g : LGet ts t (.bool A)] [s1 : LSet ts t (.bool true) tT] [s2 : LSet ts t (.bool false) tF]
    (hT : A = true → RunO P T (⟨dst, op, some (t, w), chk, pan⟩ :: rest) ⟨tT, ds, h, rd⟩ Q) (hF : A = false → RunO P T (⟨dst, op, some (t, w), chk, pan⟩ :: rest) ⟨tF, ds, h, rd⟩ Q) :
    RunO P T (⟨dst, op, some (t, w), chk, pan⟩ :: rest) ⟨ts, ds, h, rd⟩ Q := by
  haveI : LGet ts t (.bool (decide (A = true))) := ⟨by rw [g.eq]; simp, g.lt⟩
  exact O.dec (p := A = true) hT fun h => hF (by simpa using h)
theorem D.dec {t : Nat} {w : Bool} {dst : Option Nat} {p : Prop} [Decidable p] {tT tF : List Value} [g : LGet ts t (.bool (decide p))] [s1 : LSet ts t (.bool true) tT] [s2 : LSet ts t (.bool false) tF]
    (hT : p → RunD P T (⟨dst, op, some (t, w), chk, pan⟩ :: rest) ⟨tT, ds, h, rd⟩ Q) (hF : ¬ p → RunD P T (⟨dst, op, some (t, w), chk, pan⟩ :: rest) ⟨tF, ds, h, rd⟩ Q) :
    RunD P T (⟨dst, op, some (t, w), chk, pan⟩ :: rest) ⟨ts, ds, h, rd⟩ Q := by
  have same : ∀ (l : List Value) (i : Nat), lset l i (lget l i) = l := by
    intro l
    induction l with
    | nil => intro i; rfl
    | cons a l ih => intro i; cases i with
      | zero => rfl
      | succ i => simp only [lset, lget, ih]
  have hs := same ts t
  rw [g.eq] at hs
  by_cases hp : p
  · rw [decide_eq_true hp, s1.eq] at hs
    rw [← hs]; exact hT hp
  · rw [decide_eq_false hp, s2.eq] at hs
    rw [← hs]; exact hF hp
theorem D.decN {t : Nat} {w : Bool} {dst : Option Nat} {p : Prop} [Decidable p] {tT tF : List Value} [g : LGet ts t (.bool (!decide p))] [s1 : LSet ts t (.bool true) tT] [s2 : LSet ts t (.bool false) tF]
    (hT : ¬ p → RunD P T (⟨dst, op, some (t, w), chk, pan⟩ :: rest) ⟨tT, ds, h, rd⟩ Q) (hF : p → RunD P T (⟨dst, op, some (t, w), chk, pan⟩ :: rest) ⟨tF, ds, h, rd⟩ Q) :
    RunD P T (⟨dst, op, some (t, w), chk, pan⟩ :: rest) ⟨ts, ds, h, rd⟩ Q := by
  haveI : LGet ts t (.bool (decide (¬ p))) := ⟨by rw [g.eq]; simp, g.lt⟩
  exact D.dec (p := ¬ p) hT fun h => hF (Classical.not_not.1 h)
theorem D.decB {t : Nat} {w A : Bool} {dst : Option Nat} {tT tF : List Value} [g : LGet ts t (.bool A)] [s1 : LSet ts t (.bool true) tT] [s2 : LSet ts t (.bool false) tF]
    (hT : A = true → RunD P T (⟨dst, op, some (t, w), chk, pan⟩ :: rest) ⟨tT, ds, h, rd⟩ Q) (hF : A = false → RunD P T (⟨dst, op, some (t, w), chk, pan⟩ :: rest) ⟨tF, ds, h, rd⟩ Q) :
    RunD P T (⟨dst, op, some (t, w), chk, pan⟩ :: rest) ⟨ts, ds, h, rd⟩ Q := by
  haveI : LGet ts t (.bool (decide (A = true))) := ⟨by rw [g.eq]; simp, g.lt⟩
  exact D.dec (p := A = true) hT fun h => hF (by simpa using h)
theorem D.skT {t : Nat} [g : LGet ts t (.bool false)] [s : LSet ts d undef ts'] (hc : chk.all (stable P ts' h) = true := by rfl) (hr : RunD P T rest ⟨ts', ds, h, rd⟩ Q) : RunD P T (⟨some d, op, some (t, true), chk, pan⟩ :: rest) ⟨ts, ds, h, rd⟩ Q :=
  RunD.skip (by simp only [wantedT, g.eq]; rfl) (by show chk.all (stable P (lset ts d undef) h) = true; rw [s.eq]; exact hc) (by show RunD P T rest ⟨lset ts d undef, ds, h, rd⟩ Q; rw [s.eq]; exact hr)
theorem D.skF {t : Nat} [g : LGet ts t (.bool true)] [s : LSet ts d undef ts'] (hc : chk.all (stable P ts' h) = true := by rfl) (hr : RunD P T rest ⟨ts', ds, h, rd⟩ Q) : RunD P T (⟨some d, op, some (t, false), chk, pan⟩ :: rest) ⟨ts, ds, h, rd⟩ Q :=
  RunD.skip (by simp only [wantedT, g.eq]; rfl) (by show chk.all (stable P (lset ts d undef) h) = true; rw [s.eq]; exact hc) (by show RunD P T rest ⟨lset ts d undef, ds, h, rd⟩ Q; rw [s.eq]; exact hr)
end
structure Fr (S : Nat → Prop) (h h' : Heap) : Prop where
  n : h.n ≤ h'.n
  get : ∀ i, i < h.n → ¬ S i → h'.get i = h.get i
section
variable {S S' : Nat → Prop} {h h' h'' : Heap} {b : Nat} {o : AObj}
theorem Fr.refl : Fr S h h := ⟨Nat.le_refl _, fun _ _ _ => rfl⟩
theorem Fr.trans (a : Fr S h h') (c : Fr S' h' h'') (hs : ∀ i, i < h.n → S' i → S i) : Fr S h h'' :=
  ⟨Nat.le_trans a.n c.n, fun i hi hn => by rw [c.get i (Nat.lt_of_lt_of_le hi a.n) (fun h => hn (hs i hi h)), a.get i hi hn]⟩
theorem Fr.trans' (a : Fr S h h') (c : Fr S h' h'') : Fr S h h'' := a.trans c fun _ _ h => h
theorem Fr.push (a : Fr S h h') : Fr S h (h'.push o) := ⟨Nat.le_trans a.n (by simp), fun i hi hn => by
  rw [Heap.get_push, if_neg (by have := a.n; omega)]; exact a.get i hi hn⟩
theorem Fr.set (a : Fr S h h') (hb : b < h.n → S b) : Fr S h (h'.set b o) := ⟨by simpa using a.n, fun i hi hn => by
  rw [Heap.get_set]
  by_cases e : i = b
  · subst e; exact absurd (hb hi) hn
  · rw [if_neg e]; exact a.get i hi hn⟩
theorem Fr.mono (a : Fr S h h') (hs : ∀ i, i < h.n → S i → S' i) : Fr S' h h' := ⟨a.n, fun i hi hn => a.get i hi fun h => hn (hs i hi h)⟩
theorem Fr.keep (a : Fr S h h') (k : HGet h b o) (hb : b < h.n) (hn : ¬ S b) : HGet h' b o := ⟨by rw [a.get b hb hn, k.eq]⟩
theorem Fr.lt (a : Fr S h h') (hb : b < h.n) : b < h'.n := Nat.lt_of_lt_of_le hb a.n
end
end Go.Vm

/- A small machine over an abstract heap: slices of bytes, and other lists that are read or grow. -/
set_option linter.unusedSimpArgs false
set_option linter.unusedVariables false
namespace Go.Vm
theorem bcells_len (l : List UInt8) : (bcells l).length = l.length := by simp [bcells]
theorem bcells_append (l m : List UInt8) : bcells (l ++ m) = bcells l ++ bcells m := by simp [bcells]
theorem bcells_drop (l : List UInt8) (n : Nat) : (bcells l).drop n = bcells (l.drop n) := by simp [bcells]
theorem bcells_take (l : List UInt8) (n : Nat) : (bcells l).take n = bcells (l.take n) := by simp [bcells]
theorem bcells_ground (l : List UInt8) : groundL (bcells l) = true := by
  induction l with
  | nil => rfl
  | cons a l ih => show (ground (.int .u8 a.toNat) && groundL (bcells l)) = true; rw [ih]; rfl
instance {l : List UInt8} : GrL (bcells l) := ⟨bcells_ground l⟩
theorem bcells_one (l : List UInt8) : (bcells l).all Value.oneCell' = true := by
  simp [bcells, Value.oneCell']
instance {l : List UInt8} : One (bcells l) := ⟨bcells_one l⟩
theorem cellsAt_zero (h : Heap) (b off : Nat) : cellsAt h b off 0 = some [] := by simp [cellsAt]
theorem cellsAt_of {h : Heap} {b off n : Nat} {c : List Value} (hc : (h.get b).cellsOf = some c) (hl : off + n ≤ c.length) : cellsAt h b off n = some ((c.drop off).take n) := by
  unfold cellsAt
  by_cases hn : n = 0
  · subst hn; simp
  · rw [if_neg hn, hc]
    show (if off + n ≤ c.length then some ((c.drop off).take n) else none) = _
    rw [if_pos hl]
theorem cellsAt_sub {h : Heap} {b off n k m : Nat} {c : List Value} (hc : cellsAt h b off n = some c) (hl : k + m ≤ n) : cellsAt h b (off + k) m = some ((c.drop k).take m) := by
  by_cases hm : m = 0
  · subst hm; simp [cellsAt_zero]
  unfold cellsAt at hc
  rw [if_neg (by omega)] at hc
  split at hc
  · rename_i d hd
    split at hc
    · rename_i hle
      cases hc
      rw [cellsAt_of hd (by omega)]
      rw [List.drop_take, List.drop_drop, List.take_take]
      congr 2
      omega
    · cases hc
  · cases hc
theorem cellsAt_keep {S : Nat → Prop} {h h' : Heap} {b off n : Nat} (hf : Fr S h h') (hb : b < h.n) (hn : ¬ S b) : cellsAt h' b off n = cellsAt h b off n := by
  unfold cellsAt; rw [hf.get b hb hn]
def Rd (h : Heap) (size : Nat) (v : Value) (c : List Value) (n : Nat) : Prop :=
  ∃ a cap, v = .slice a n cap ∧ c.length = n * size ∧ (n ≠ 0 → ∃ b o sp, a = some ⟨b, o, sp⟩ ∧ b < h.n ∧ cellsAt h b o (n * size) = some c)
def blockOf : Value → Nat → Prop
  | .slice (some a) n _, i => a.block = i ∧ n ≠ 0
  | _, _ => False
theorem Rd.nil {h : Heap} {size : Nat} {a : Option Addr} {cap : Nat} : Rd h size (.slice a 0 cap) [] 0 := ⟨a, cap, rfl, by simp, fun h => absurd rfl h⟩
theorem Rd.keep {S : Nat → Prop} {h h' : Heap} {size : Nat} {v : Value} {c : List Value} {n : Nat} (hr : Rd h size v c n) (hf : Fr S h h') (hs : ∀ b, blockOf v b → ¬ S b) : Rd h' size v c n := by
  obtain ⟨a, cap, rfl, hl, hc⟩ := hr
  refine ⟨a, cap, rfl, hl, fun hn => ?_⟩
  obtain ⟨b, o, sp, rfl, hb, hcc⟩ := hc hn
  exact ⟨b, o, sp, rfl, hf.lt hb, by rw [cellsAt_keep hf hb (hs b ⟨rfl, hn⟩)]; exact hcc⟩
theorem Rd.mk {h : Heap} {size b o n cap : Nat} {sp : Option Nat} {c : List Value} (hb : b < h.n) (hc : cellsAt h b o (n * size) = some c) : Rd h size (.slice (some ⟨b, o, sp⟩) n cap) c n :=
  ⟨_, cap, rfl, cellsAt_length hc, fun _ => ⟨b, o, sp, rfl, hb, hc⟩⟩
theorem Rd.new {h : Heap} {size : Nat} {v : Value} {c : List Value} {n : Nat} (hr : Rd h size v c n) (zero : List Value) : newCells h size zero false v = some (n, c) := by
  obtain ⟨a, cap, rfl, hl, hc⟩ := hr
  cases a with
  | none =>
    by_cases hn : n = 0
    · subst hn
      have : c = [] := by simpa using hl
      subst this
      simp [newCells]
    · obtain ⟨_, _, _, h1, _⟩ := hc hn; cases h1
  | some a =>
    simp only [newCells, Bool.false_eq_true, if_false]
    by_cases hn : n = 0
    · subst hn
      have : c = [] := by simpa using hl
      subst this
      simp [cellsAt_zero]
    · obtain ⟨b, o, sp, h1, hb, h2⟩ := hc hn
      cases h1
      simp [h2]
inductive Own (h : Heap) (size : Nat) : Value → List Value → Nat → Prop
  | none : Own h size (.slice none 0 0) [] 0
  | lit {q es : Nat} : q < h.n → h.get q = .cells [] es → Own h size (.slice (some ⟨q, 0, none⟩) 0 0) [] 0
  | grown {q k n cap : Nat} {c j : List Value} : q < h.n → cap ≠ 0 → n ≤ cap → c.length = n * size → (c ++ j).length = cap * size → h.get q = .cells (c ++ j) size → Own h size (.slice (some ⟨q, 0, some k⟩) n cap) c n
def ownedBy : Value → Nat → Prop
  | .slice (some a) _ _, i => a.block = i
  | _, _ => False
theorem Own.rd {h : Heap} {size : Nat} {v : Value} {c : List Value} {n : Nat} (ho : Own h size v c n) : Rd h size v c n := by
  cases ho with
  | none => exact Rd.nil
  | lit _ _ => exact Rd.nil
  | grown hq hn hle hl hl2 hg => exact Rd.mk hq (by
      rw [cellsAt_of (by rw [hg]; rfl) (by rw [List.length_append]; omega), List.drop_zero, ← hl, List.take_left])
theorem Own.keep {S : Nat → Prop} {h h' : Heap} {size : Nat} {v : Value} {c : List Value} {n : Nat} (ho : Own h size v c n) (hf : Fr S h h') (hs : ∀ b, ownedBy v b → ¬ S b) : Own h' size v c n := by
  cases ho with
  | none => exact .none
  | lit hq hg => exact .lit (hf.lt hq) (by rw [hf.get _ hq (hs _ rfl), hg])
  | grown hq hn hle hl hl2 hg => exact .grown (hf.lt hq) hn hle hl hl2 (by rw [hf.get _ hq (hs _ rfl), hg])
theorem Own.lt {h : Heap} {size : Nat} {v : Value} {c : List Value} {n : Nat} (ho : Own h size v c n) {b : Nat} (hb : ownedBy v b) : b < h.n := by
  cases ho with
  | none => cases hb
  | lit hq _ => cases hb; exact hq
  | grown hq _ _ _ _ _ => cases hb; exact hq
theorem Own.len {h : Heap} {size : Nat} {v : Value} {c : List Value} {n : Nat} (ho : Own h size v c n) : c.length = n * size := by
  cases ho <;> simp_all
theorem over_front : ∀ (j d : List Value), d.length ≤ j.length → over j 0 d = d ++ j.drop d.length
  | j, [], _ => by simp [over_nil]
  | [], _ :: _, h => by simp at h
  | v :: j, w :: d, h => by
    show w :: over j 0 d = _
    rw [over_front j d (by simpa using h)]; rfl
theorem over_end (c j d : List Value) (h : d.length ≤ j.length) : over (c ++ j) c.length d = c ++ d ++ j.drop d.length := by
  have := over_app c j d 0
  rw [Nat.add_zero] at this
  rw [this, over_front j d h, List.append_assoc]
theorem append_own {h : Heap} {size bytes : Nat} {zero : List Value} {zeros : Bool} {v x : Value} {c d : List Value} {n m : Nat} (hs : size ≠ 0) (hb : bytes < 1048576) (hsm : n + m < 1048576) (ho : Own h size v c n) (hx : newCells h size zero zeros x = some (m, d))
    (hd : d.length = m * size) (h1 : d.all Value.oneCell' = true) :
    ∃ v' h', appendOf size bytes zero zeros v x h = .ok v' h' ∧ Own h' size v' (c ++ d) (n + m) ∧ Fr (ownedBy v) h h' ∧ (∀ i, ownedBy v' i → ownedBy v i ∨ h.n ≤ i) := by
  unfold appendOf
  rw [if_neg hs]
  have hbig : ¬ (n + m ≥ 1048576 ∨ bytes ≥ 1048576) := by omega
  cases ho with
  | none =>
    rw [hx]
    simp only
    rw [if_neg hbig]
    by_cases hm : m = 0
    · subst hm
      have : d = [] := by simpa using hd
      subst this
      exact ⟨_, _, by simp, .none, Fr.refl, fun i hi => by cases hi⟩
    · refine ⟨.slice (some ⟨h.n, 0, some 0⟩) (0 + m) (0 + m), h.push (.cells d size), by simp [hm], .grown (j := []) (by simp) (by omega) (Nat.le_refl _) (by simpa using hd) (by simpa using hd) (by rw [Heap.get_push, if_pos rfl]; simp), Fr.refl.push, fun i hi => ?_⟩
      cases hi; exact .inr (Nat.le_refl _)
  | lit hq hg =>
    rename_i q es
    rw [hx]
    simp only
    rw [if_neg hbig]
    by_cases hm : m = 0
    · subst hm
      have : d = [] := by simpa using hd
      subst this
      have hp : putAt h q (0 + 0 * size) [] = some (h.set q (.cells [] es)) := by simp [putAt, hg, over_nil]
      refine ⟨_, _, by simp only [Nat.add_zero, Nat.le_refl, if_true, hp]; rfl, .lit (by simpa using hq) (by rw [Heap.get_set, if_pos rfl]), Fr.refl.set fun _ => rfl, fun i hi => ?_⟩
      cases hi; exact .inl rfl
    · refine ⟨_, _, by rw [if_neg (by omega)]; simp only [Nat.zero_mul, cellsAt_zero]; rfl, .grown (j := []) (by simp) (by omega) (Nat.le_refl _) (by simpa using hd) (by simpa using hd) (by rw [Heap.get_push, if_pos rfl]; simp), Fr.refl.push, fun i hi => ?_⟩
      cases hi; exact .inr (Nat.le_refl _)
  | grown hq hn hle hl hl2 hg =>
    rename_i q k cap j
    rw [hx]
    simp only
    rw [if_neg hbig]
    rw [List.length_append] at hl2
    by_cases hm : n + m ≤ cap
    · have hdj : d.length ≤ j.length := by
        have := Nat.mul_le_mul_right size hm
        rw [Nat.add_mul] at this
        omega
      have hp : putAt h q (0 + n * size) d = some (h.set q (.cells (c ++ d ++ j.drop d.length) size)) := by
        simp only [putAt, hg]
        rw [if_pos ⟨by rw [List.length_append]; omega, h1⟩, Nat.zero_add, ← hl, over_end c j d hdj]
      refine ⟨_, _, by simp only [hm, if_true, hp]; rfl, ?_, Fr.refl.set fun _ => rfl, fun i hi => ?_⟩
      · exact .grown (j := j.drop d.length) (by simpa using hq) hn hm (by rw [List.length_append, hl, hd, Nat.add_mul]) (by simp only [List.length_append, List.length_drop]; omega) (by rw [Heap.get_set, if_pos rfl])
      · cases hi; exact .inl rfl
    · have hca : cellsAt h q 0 (n * size) = some c := by
        rw [cellsAt_of (by rw [hg]; rfl) (by rw [List.length_append]; omega), List.drop_zero, ← hl, List.take_left]
      refine ⟨_, _, by rw [if_neg hm]; simp only [hca, hg]; rw [if_pos ⟨trivial, h1⟩], ?_, ?_, fun i hi => ?_⟩
      · refine .grown (j := []) (by simp) (by omega) (Nat.le_refl _) (by rw [List.length_append, hl, hd, Nat.add_mul]) (by rw [List.append_nil, List.length_append, hl, hd, Nat.add_mul]) (by rw [Heap.get_push, if_pos (by simp), List.append_nil])
      · exact (Fr.refl.set fun _ => rfl).push
      · cases hi; exact .inr (by simp)
theorem slice_own {h : Heap} {size : Nat} {v : Value} {c : List Value} {n : Nat} (hs : size ≠ 0) (ho : Own h size v c n) {e : Operand → Value} {lo hi : Operand} {i j : Nat} {K J : IntKind} (hlo : e lo = .int K i) (hhi : e hi = .int J j) (hij : i ≤ j) (hj : j ≤ n) :
    ∃ v', sliceOf e size v (some lo) (some hi) none h = .ok v' h ∧ (∀ b, blockOf v' b → ownedBy v b) ∧ Rd h size v' ((c.drop (i * size)).take ((j - i) * size)) (j - i) := by
  have ix : ∀ {lim : Nat} {K : IntKind} {i : Nat}, i ≤ lim → idx (lim + 1) (.int K i) = some i := fun hl => by rw [idx_in (by omega)]; simp
  cases ho with
  | none =>
    obtain rfl : j = 0 := by omega
    obtain rfl : i = 0 := by omega
    refine ⟨_, by simp only [sliceOf, bnd, hlo, hhi, ix (Nat.le_refl 0)]; rfl, fun b hb => by first | exact hb.elim | exact absurd rfl hb.2, ?_⟩
    simpa using Rd.nil
  | lit hq hg =>
    obtain rfl : j = 0 := by omega
    obtain rfl : i = 0 := by omega
    refine ⟨_, by simp only [sliceOf, bnd, hlo, hhi, ix (Nat.le_refl 0)]; rfl, fun b hb => by first | exact hb.elim | exact absurd rfl hb.2, ?_⟩
    simpa using Rd.nil
  | grown hq hn hle hl hl2 hg =>
    rename_i q k cap jj
    rw [List.length_append] at hl2
    have hca : cellsAt h q 0 (n * size) = some c := by
      rw [cellsAt_of (by rw [hg]; rfl) (by rw [List.length_append]; omega), List.drop_zero, ← hl, List.take_left]
    have hmul : i * size + (j - i) * size = j * size := by rw [← Nat.add_mul]; congr 1; omega
    have hmul2 : j * size ≤ n * size := Nat.mul_le_mul_right _ hj
    have hj' : j ≤ cap := by omega
    by_cases hi0 : i = 0
    · subst hi0
      refine ⟨.slice (some ⟨q, 0, some k⟩) j cap, by simp only [sliceOf, bnd, hlo, hhi, ix hj', ix (Nat.zero_le j)]; rw [if_neg (by omega)]; simp, fun b hb => hb.1, ?_⟩
      refine Rd.mk hq ?_
      have := cellsAt_sub (k := 0) (m := j * size) hca (by omega)
      simpa using this
    · by_cases hin : i = cap
      · refine ⟨.slice (some ⟨0, 0, some k⟩) 0 0, by simp only [sliceOf, bnd, hlo, hhi, ix hj', ix hij]; rw [if_neg (by omega)]; simp only [hi0, if_false, hin, if_true, hn], fun b hb => absurd rfl hb.2, ?_⟩
        have : j - i = 0 := by omega
        rw [this]
        simpa using Rd.nil
      · refine ⟨.slice (some ⟨q, 0 + i * size, some k⟩) (j - i) (cap - i), by simp only [sliceOf, bnd, hlo, hhi, ix hj', ix hij]; rw [if_neg (by omega)]; simp only [hi0, if_false, if_neg (Ne.symm hin), hg, if_true], fun b hb => hb.1, ?_⟩
        refine Rd.mk hq ?_
        simp only [Nat.zero_add]
        have := cellsAt_sub (k := i * size) (m := (j - i) * size) hca (by omega)
        simpa using this
end Go.Vm
