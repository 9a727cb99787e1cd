/- A small machine over an abstract heap: Go's == on bools, structs and arrays; bytes that are zero. -/
import Derived.Test.YtoadcfjkkoemdaaVm40
import Derived.Laws.StructEq
set_option linter.unusedSimpArgs false
set_option linter.unusedVariables false
namespace Go.Vm

section
variable {P : Program}

theorem pr_bindE {α β : Type} (s : Sem α) (k : α → Sem β) : pr P (s >>= k) = match pr P s with
    | some (.ok a) => pr P (k a)
    | some (.error v) => some (.error v)
    | none => none := by
  induction s with
  | pure a => rfl
  | program f ih => exact ih P
  | halt x => cases x <;> rfl
  | _ => rfl
theorem pr_pure {α : Type} (a : α) : pr P (pure a : Sem α) = some (.ok a) := rfl
theorem pr_program : pr P program = some (.ok P) := rfl
theorem pr_ite {α : Type} (c : Prop) [Decidable c] (a b : Sem α) : pr P (if c then a else b) = if c then pr P a else pr P b := by split <;> rfl

/-! ### What cells of a type are -/

inductive LK where
  | b | s | i (k : IntKind)
  deriving DecidableEq

def LK.is : LK → Value → Prop
  | .b, .bool _ => True
  | .s, .string _ => True
  | .i k, .int k' _ => k' = k
  | _, _ => False

def KLp : List LK → List Value → Prop
  | [], [] => True
  | k :: ks, v :: vs => k.is v ∧ KLp ks vs
  | _, _ => False

theorem KLp.length : ∀ {ks : List LK} {vs : List Value}, KLp ks vs → vs.length = ks.length
  | [], [], _ => rfl
  | _ :: _, _ :: _, h => by simp [KLp.length h.2]
  | [], _ :: _, h => h.elim
  | _ :: _, [], h => h.elim
theorem KLp.append : ∀ {ks ks' : List LK} {vs vs' : List Value}, KLp ks vs → KLp ks' vs' → KLp (ks ++ ks') (vs ++ vs')
  | [], _, [], _, _, h => h
  | _ :: _, _, _ :: _, _, h, h' => ⟨h.1, KLp.append h.2 h'⟩
  | [], _, _ :: _, _, h, _ => h.elim
  | _ :: _, _, [], _, h, _ => h.elim
theorem KLp.drop : ∀ {ks : List LK} {vs : List Value} (n : Nat), KLp ks vs → KLp (ks.drop n) (vs.drop n)
  | _, _, 0, h => by simpa using h
  | [], [], n + 1, h => by simp [KLp]
  | _ :: _, _ :: _, n + 1, h => by simpa using KLp.drop n h.2
  | [], _ :: _, _, h => h.elim
  | _ :: _, [], _, h => h.elim
theorem KLp.take : ∀ {ks : List LK} {vs : List Value} (n : Nat), KLp ks vs → KLp (ks.take n) (vs.take n)
  | _, _, 0, h => by simp [KLp]
  | [], [], n + 1, h => by simp [KLp]
  | _ :: _, _ :: _, n + 1, h => by simpa using ⟨h.1, KLp.take n h.2⟩
  | [], _ :: _, _, h => h.elim
  | _ :: _, [], _, h => h.elim

/-- the leaves of a type, where it has no addresses -/
def leaves (P : Program) : Nat → TypeId → Option (List LK)
  | 0, _ => none
  | m + 1, t =>
    match P.underlying t with
    | some .bool => if P.cellsOf t = 1 ∧ (P.info? t).isSome then some [.b] else none
    | some (.int k) => if P.cellsOf t = 1 ∧ (P.info? t).isSome then some [.i k] else none
    | some .string => if P.cellsOf t = 1 ∧ (P.info? t).isSome then some [.s] else none
    | some (.struct fs) => if P.stoodInHeld t = false ∧ (P.info? t).isSome ∧ fs.toList.all (fun f => f.name != "_") = true ∧ layFrom P fs.toList 0 = some (P.cellsOf t) then (fs.toList.mapM fun f => leaves P m f.type).map List.flatten else none
    | some (.array n e) => if P.cellsOf t = n * P.cellsOf e ∧ (P.info? t).isSome then (leaves P m e).map fun l => (List.replicate n l).flatten else none
    | _ => none

def isAggT (P : Program) (t : TypeId) : Bool := match P.underlying t with
  | some (.struct _) | some (.array _ _) => true
  | _ => false
/-- cells as a value of a type -/
def valT (P : Program) (t : TypeId) (cs : List Value) : Value := if isAggT P t then .agg ⟨cs⟩ else lget cs 0

theorem pr_sizeOf {t : TypeId} (h : (P.info? t).isSome) : pr P (sizeOf t) = some (.ok (P.cellsOf t)) := by
  unfold sizeOf typeInfo Program.cellsOf
  simp only [pr_bindE, pr_program]
  cases hi : P.info? t with
  | none => rw [hi] at h; cases h
  | some i => rfl

theorem pr_underlying {t : TypeId} {d : TypeDesc} (h : P.underlying t = some d) : pr P (underlying t) = some (.ok d) := pr_under h

theorem pr_isAgg {t : TypeId} {d : TypeDesc} (hu : P.underlying t = some d) : pr P (isAgg t) = some (.ok (isAggT P t)) := by
  unfold isAgg isAggT
  rw [pr_bindE, pr_underlying hu, hu]
  cases d <;> rfl

theorem pr_part {t : TypeId} {d : TypeDesc} (hu : P.underlying t = some d) (hi : (P.info? t).isSome) {cs : List Value} {off : Nat} (hl : off + P.cellsOf t ≤ cs.length) (hp : isAggT P t = false → P.cellsOf t = 1) :
    pr P (part t ⟨cs⟩ off) = some (.ok (valT P t ((cs.drop off).take (P.cellsOf t)))) := by
  unfold part
  rw [pr_bindE, pr_isAgg hu]
  by_cases ha : isAggT P t = true
  · simp only [ha, if_true, pr_bindE, pr_sizeOf hi, pr_pure, valT]
    congr 3
    simp [List.extract_eq_take_drop]
  · have ha' : isAggT P t = false := by simpa using ha
    simp only [ha', Bool.false_eq_true, if_false, valT]
    have h1 := hp ha'
    rw [h1] at hl ⊢
    have hlt : off < cs.length := by omega
    have hg : (⟨cs⟩ : Array Value)[off]? = some cs[off] := by simp [hlt]
    rw [hg]
    simp only [pr_pure]
    rw [take_one _ _ hlt]
    congr 2
    show cs[off] = lget cs off
    clear hg hp hi hu ha ha' hl h1
    induction cs generalizing off with
    | nil => simp at hlt
    | cons a l ih =>
      cases off with
      | zero => rfl
      | succ off => exact ih (by simpa using hlt)

theorem pr_eqStruct (d : Nat) {t : TypeId} {fs : Array Field} (xs ys : Array Value) (ht : P.underlying t = some (.struct fs)) (hp : P.stoodInHeld t = false) :
    pr P (Op.equalIn (d + 1) t (.agg xs) (.agg ys)) = pr P (Op.eqFields d xs ys fs.toList) := by
  simp only [Op.equalIn, pr_bindE, pr_underlying ht, pr_program, hp, Bool.false_eq_true, if_false]
  rw [← Array.forIn_toList]
  generalize fs.toList = fs
  clear ht
  induction fs with
  | nil => simp [Op.eqFields, pr_pure]
  | cons f fs ih =>
    simp only [List.forIn_cons, Op.eqFields]
    by_cases hn : f.name ≠ "_"
    · simp only [if_pos hn, pr_bindE]
      generalize pr P (part f.type xs f.offset) = r1
      cases r1 with
      | none => simp
      | some r1 =>
        cases r1 with
        | error v => simp
        | ok a =>
          simp only
          generalize pr P (part f.type ys f.offset) = r2
          cases r2 with
          | none => simp
          | some r2 =>
            cases r2 with
            | error v => simp
            | ok b =>
              simp only
              generalize pr P (Op.equalIn d f.type a b) = r3
              cases r3 with
              | none => simp
              | some r3 =>
                cases r3 with
                | error v => simp
                | ok r =>
                  cases r
                  · simp [pr_pure, pr_bindE]
                  · simp only [Bool.not_true, Bool.false_eq_true, if_false, pr_pure]
                    exact ih
    · simp only [if_neg hn, pr_bindE, pr_pure]
      exact ih

def eqElems (d : Nat) (e : TypeId) (n : Nat) (xs ys : Array Value) : List Nat → Sem Bool
  | [] => pure true
  | i :: is => do
      let a ← part e xs (i * n)
      let b ← part e ys (i * n)
      let r ← Op.equalIn d e a b
      if (!r) = true then pure false else eqElems d e n xs ys is

theorem pr_eqArray (d : Nat) {t e : TypeId} {n : Nat} (xs ys : Array Value) (ht : P.underlying t = some (.array n e)) (hi : (P.info? e).isSome) :
    pr P (Op.equalIn (d + 1) t (.agg xs) (.agg ys)) = pr P (eqElems d e (P.cellsOf e) xs ys (List.range n)) := by
  simp only [Op.equalIn, pr_bindE, pr_underlying ht, pr_sizeOf hi]
  rw [Std.Legacy.Range.forIn_eq_forIn_range', List.range_eq_range']
  have hsz : (Std.Legacy.Range.size [0:n]) = n := by simp [Std.Legacy.Range.size]
  rw [hsz]
  generalize List.range' 0 n = is
  clear ht hsz
  induction is with
  | nil => simp [eqElems, pr_pure]
  | cons i is ih =>
    simp only [List.forIn_cons, eqElems, pr_bindE]
    generalize pr P (part e xs (i * P.cellsOf e)) = r1
    cases r1 with
    | none => simp
    | some r1 =>
      cases r1 with
      | error v => simp
      | ok a =>
        simp only
        generalize pr P (part e ys (i * P.cellsOf e)) = r2
        cases r2 with
        | none => simp
        | some r2 =>
          cases r2 with
          | error v => simp
          | ok b =>
            simp only
            generalize pr P (Op.equalIn d e a b) = r3
            cases r3 with
            | none => simp
            | some r3 =>
              cases r3 with
              | error v => simp
              | ok r =>
                cases r
                · simp [pr_pure, pr_bindE]
                · simp only [Bool.not_true, Bool.false_eq_true, if_false, pr_pure]
                  exact ih
end
end Go.Vm
