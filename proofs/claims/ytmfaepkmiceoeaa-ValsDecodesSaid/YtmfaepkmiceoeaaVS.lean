/- Validators: what their bytes come to. Plain facts. -/
import Derived.Test.YtmfaepkmiceoeaaK1
namespace Go.Proofs.Ytmfaepkmiceoeaa.A
open Go Go.Vm
set_option maxRecDepth 10000
set_option linter.unusedVariables false

/-- a validator: its key's bytes, its power -/
structure Val where
  k0 : UInt8
  k1 : UInt8
  k2 : UInt8
  k3 : UInt8
  p : Int
deriving DecidableEq
abbrev Val.key (v : Val) : List UInt8 := [v.k0, v.k1, v.k2, v.k3]
abbrev Val.cells (v : Val) : List Value := [.int .u8 v.k0.toNat, .int .u8 v.k1.toNat, .int .u8 v.k2.toNat, .int .u8 v.k3.toNat, .int .i64 v.p]
abbrev zVal : Val := ⟨0, 0, 0, 0, 0⟩
def Val.of (l : List UInt8) (p : Int) : Val := ⟨l.getD 0 0, l.getD 1 0, l.getD 2 0, l.getD 3 0, p⟩
def vcells (l : List Val) : List Value := l.flatMap Val.cells
theorem vcells_nil : vcells [] = [] := rfl
theorem vcells_cons (v : Val) (l : List Val) : vcells (v :: l) = v.cells ++ vcells l := rfl
theorem vcells_append (l m : List Val) : vcells (l ++ m) = vcells l ++ vcells m := by simp [vcells]
theorem vcells_len : ∀ l : List Val, (vcells l).length = l.length * 5
  | [] => rfl
  | v :: l => by rw [vcells_cons, List.length_append, vcells_len l]; simp; omega
theorem vcells_one : ∀ l : List Val, (vcells l).all Value.oneCell' = true
  | [] => rfl
  | v :: l => by rw [vcells_cons, List.all_append, vcells_one l]; rfl
theorem vcells_at : ∀ {l : List Val} {k : Nat}, k < l.length → ((vcells l).drop (k * 5)).take 5 = (l.getD k zVal).cells
  | v :: l, 0, _ => by rw [vcells_cons]; rfl
  | v :: l, k + 1, h => by
    have := vcells_at (l := l) (k := k) (by simpa using h)
    rw [vcells_cons, show (k + 1) * 5 = v.cells.length + k * 5 from by simp; omega, ← List.drop_drop, List.drop_left]
    exact this
theorem val_cells {h : Heap} {b o n k : Nat} {l : List Val} (hc : cellsAt h b o (n * 5) = some (vcells l)) (hn : l.length = n) (hk : k < n) : Cells h b (o + k * 5) 5 (l.getD k zVal).cells := ⟨by
  rw [cellsAt_sub hc (by omega), vcells_at (by omega)]⟩
theorem val_key {h : Heap} {b o n k : Nat} {l : List Val} (hc : cellsAt h b o (n * 5) = some (vcells l)) (hn : l.length = n) (hk : k < n) : Cells h b (o + k * 5) 4 [.int .u8 (l.getD k zVal).k0.toNat, .int .u8 (l.getD k zVal).k1.toNat, .int .u8 (l.getD k zVal).k2.toNat, .int .u8 (l.getD k zVal).k3.toNat] := ⟨by
  have h5 := (val_cells hc hn hk).eq
  have := cellsAt_sub (k := 0) (m := 4) h5 (by omega)
  simpa using this⟩
theorem val_power {h : Heap} {b o n k : Nat} {l : List Val} (hc : cellsAt h b o (n * 5) = some (vcells l)) (hn : l.length = n) (hk : k < n) : Cell h b (o + k * 5 + 4) (.int .i64 (l.getD k zVal).p) := ⟨by
  have h5 := (val_cells hc hn hk).eq
  have := cellsAt_sub (k := 4) (m := 1) h5 (by omega)
  simpa using this⟩

/-- what is wrong with validators, one behind the other: the key ahead -/
def stepsV (least : Int) : Option Val → List Val → Int
  | _, [] => 0
  | last, v :: l => if (match last with | none => false | some x => !keyLt x.key v.key) = true then 9 else if v.p < least ∨ 4611686018427387904 < v.p then 3 else stepsV least (some v) l
/-- why a set may not be -/
def checkV (l : List Val) : Int := if l.length = 0 then 6 else if 64 < l.length then 4 else stepsV 1 none l

def lastV (l : List Val) (k : Nat) : Option Val := if k = 0 then none else some (l.getD (k - 1) zVal)
theorem drop_getD {l : List Val} {k : Nat} (hk : k < l.length) : l.drop k = l.getD k zVal :: l.drop (k + 1) := by
  rw [List.drop_eq_getElem_cons hk]
  simp [List.getD, hk]
theorem stepsV_at {least : Int} {l : List Val} {k : Nat} (hk : k < l.length) : stepsV least (lastV l k) (l.drop k) =
    if (match lastV l k with | none => false | some x => !keyLt x.key (l.getD k zVal).key) = true then 9 else if (l.getD k zVal).p < least ∨ 4611686018427387904 < (l.getD k zVal).p then 3 else stepsV least (lastV l (k + 1)) (l.drop (k + 1)) := by
  rw [drop_getD hk]
  rfl

/-- what is wrong with a validator, by the one ahead -/
def atS (x : Val) (begun : Bool) (least most : Int) (v : Val) : Int := if (begun && !keyLt x.key v.key) = true then 9 else if v.p < least ∨ most < v.p then 3 else 0
theorem stepsV_atS {least : Int} {l : List Val} {k : Nat} {x : Val} (hk : k < l.length) (hx : 0 < k → lastV l k = some x) :
    stepsV least (lastV l k) (l.drop k) = if atS x (decide (0 < k)) least 4611686018427387904 (l.getD k zVal) = 0 then stepsV least (lastV l (k + 1)) (l.drop (k + 1)) else atS x (decide (0 < k)) least 4611686018427387904 (l.getD k zVal) := by
  rw [stepsV_at hk]
  by_cases h0 : 0 < k
  · rw [hx h0]
    unfold atS
    simp only [decide_eq_true h0, Bool.true_and]
    split
    · rfl
    · split
      · rfl
      · rfl
  · obtain rfl : k = 0 := by omega
    unfold atS
    simp only [lastV, if_true, Nat.lt_irrefl, decide_false, Bool.false_and, Bool.false_eq_true, if_false]
    split
    · rfl
    · rfl

/-- readings, one behind the other -/
def stepV (bs : List UInt8) : Nat → List Val × RSt → List Val × RSt
  | 0, y => y
  | k + 1, y =>
    let a := rd (partS 4 bs) zb4 (stepV bs k y).2
    let b := rd (numS bs) 0 a.2
    ((stepV bs k y).1 ++ [Val.of a.1 (b.1 : Nat)], b.2)
/-- what bytes come to as a set: the set, the error, and where -/
def decV (bs : List UInt8) : List Val × Int × Int :=
  let n := rd (numS bs) 0 ⟨0, 0, 0⟩
  if 64 < n.1 then ([], (4, 0)) else
    let y := stepV bs n.1 ([], n.2)
    let f := endS bs y.2
    let g := if f = (0, 0) then (checkV y.1, 0) else f
    if g = (0, 0) then (y.1, (0, 0)) else ([], g)
theorem stepV_len (bs : List UInt8) (y : List Val × RSt) : ∀ k, (stepV bs k y).1.length = y.1.length + k
  | 0 => rfl
  | k + 1 => by
    show ((stepV bs k y).1 ++ [_]).length = _
    rw [List.length_append, stepV_len bs y k]
    simp
    omega
theorem decV_len (bs : List UInt8) : (decV bs).1.length ≤ 64 := by
  unfold decV
  simp only
  split
  · simp
  · rename_i hn
    have key : ∀ g : Int × Int, (if g = (0, 0) then ((stepV bs (rd (numS bs) 0 ⟨0, 0, 0⟩).1 ([], (rd (numS bs) 0 ⟨0, 0, 0⟩).2)).1, ((0 : Int), (0 : Int))) else (([] : List Val), g)).1.length ≤ 64 := fun g => by
      split
      · rw [stepV_len]; simp; omega
      · simp
    exact key _
end Go.Proofs.Ytmfaepkmiceoeaa.A
