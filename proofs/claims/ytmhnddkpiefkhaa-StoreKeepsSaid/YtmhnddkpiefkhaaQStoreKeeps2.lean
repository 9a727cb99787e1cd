/- Contracts of functions, over the machine. -/
import Derived.Test.YtmhnddkpiefkhaaQStoreKeeps1
import Derived.Test.YtmhnddkpiefkhaaVK
import Derived.Test.YtmhnddkpiefkhaaVJ
set_option linter.unusedSimpArgs false
noncomputable section
namespace Go.Proofs.Ytmhnddkpiefkhaa.A
open Go Go.Vm
set_option maxRecDepth 10000
set_option linter.unusedVariables false
structure Vote where
  at' : Int
  sig : Nat
abbrev Vote.cells (v : Vote) : List Value := [.int .i64 v.at', .int .u64 v.sig]
def tcells (l : List Vote) : List Value := l.flatMap Vote.cells
theorem tcells_nil : tcells [] = [] := rfl
theorem tcells_cons (v : Vote) (l : List Vote) : tcells (v :: l) = v.cells ++ tcells l := rfl
theorem tcells_len : ∀ l : List Vote, (tcells l).length = l.length * 2
  | [] => rfl
  | v :: l => by rw [tcells_cons, List.length_append, tcells_len l]; simp; omega
end Go.Proofs.Ytmhnddkpiefkhaa.A

namespace Go.Proofs.Ytmhnddkpiefkhaa.A
open Go Go.Vm
set_option maxRecDepth 10000
set_option linter.unusedVariables false
structure Cm where
  height : Int
  hash : List UInt8
  votes : List Vote
abbrev Cm.cells (x : Cm) (sv : Value) : List Value := .int .i64 x.height :: (bcells x.hash ++ [sv])
abbrev zCm : Cm := ⟨0, zb32, []⟩
end Go.Proofs.Ytmhnddkpiefkhaa.A

namespace Go.Proofs.Ytmhnddkpiefkhaa.A
open Go Go.Vm
set_option maxRecDepth 10000
set_option linter.unusedVariables false
def zeroHd : Hd := ⟨[], 0, 0, zb32, zb32, zb32, zb32⟩
end Go.Proofs.Ytmhnddkpiefkhaa.A

namespace Go.Proofs.Ytmhnddkpiefkhaa.A
open Go Go.Vm
set_option maxRecDepth 10000
set_option linter.unusedVariables false
structure Bk where
  h : Hd
  c : Cm
  vals : List Val
abbrev zBk : Bk := ⟨zeroHd, zCm, []⟩
structure Bk.ok (x : Bk) : Prop where
  h : x.h.ok
  hash : x.c.hash.length = 32
  votes : x.c.votes.length ≤ 64
  vals : x.vals.length ≤ 64
abbrev Bk.cells (x : Bk) (sv sl : Value) : List Value := .string ⟨⟨x.h.chain⟩⟩ :: .int .i64 x.h.height :: .int .i64 x.h.time :: (bcells x.h.prev ++ (bcells x.h.vals ++ (bcells x.h.next ++ (bcells x.h.app ++ (.int .i64 x.c.height :: (bcells x.c.hash ++ [sv, sl]))))))
abbrev zBc : List Value := .string ⟨⟨[]⟩⟩ :: .int .i64 0 :: .int .i64 0 :: (z32 ++ (z32 ++ (z32 ++ (z32 ++ (.int .i64 0 :: (z32 ++ [.slice none 0 0, .slice none 0 0]))))))
end Go.Proofs.Ytmhnddkpiefkhaa.A

namespace Go.Proofs.Ytmhnddkpiefkhaa.A
open Go Go.Vm
set_option maxRecDepth 10000
set_option linter.unusedVariables false
theorem appendLitV {P : Program} {T : Table} {ts : List Value} {ds : List Deferred} {h : Heap} {rd : Option Nat} {dst bytes el : Nat} {x y : Operand} {chk : List (Option Nat × AOp × Option (Nat × Bool))} {pan : Bool} {rest : List AOper} {Q : QP} {F : Value → List Value} {w : Value} {l : List Val}
    [e1 : Ev ts x (.slice (some ⟨h.n, 0, none⟩) 0 0)] [e2 : Ev ts y w] [s : LSetF ts dst F] (hv : Rd h 5 w (vcells l) l.length) (hs : l.length < 1048576) (hb : bytes < 1048576)
    (hk : ∀ v' h', Own h' 5 v' (vcells l) l.length → Fr (fun _ => False) h h' → (∀ i, ownedBy v' i → h.n ≤ i) → RunO P T rest ⟨F v', ds, h', rd⟩ Q) :
    RunO P T (⟨some dst, .append el 5 bytes [.int .u8 0, .int .u8 0, .int .u8 0, .int .u8 0, .int .i64 0] false x y, none, chk, pan⟩ :: rest) ⟨ts, ds, h.push (.cells [] 0), rd⟩ Q := by
  have f0 : Fr (fun _ => False) h (h.push (.cells [] 0)) := Fr.refl.push
  have hz : Own (h.push (.cells [] 0)) 5 (.slice (some ⟨h.n, 0, none⟩) 0 0) [] 0 := .lit (by simp) (by rw [Heap.get_push, if_pos rfl])
  refine O.append hz ((hv.keep f0 fun _ _ => id).new _) (vcells_len l) (vcells_one l) (by omega) (by omega) (by omega) (fun v' h' h1 h2 h3 => ?_)
  rw [Nat.zero_add, List.nil_append] at h1
  refine hk v' h' h1 (f0.trans (S := fun _ => False) h2 fun i hi ho => ?_) fun i hi => ?_
  · have : h.n = i := ho
    omega
  · rcases h3 i hi with h4 | h4
    · have : h.n = i := h4
      omega
    · simp at h4; omega
theorem CloneV_ok {h : Heap} {v : Value} {l : List Val} (hr : Rd h 5 v (vcells l) l.length) (hs : l.length < 1048576) :
    Runs Try.prog T0 (.fn fn_zxQ) [v] h
      (fun r h' => Own h' 5 r (vcells l) l.length ∧ Fr (fun _ => False) h h' ∧ ∀ i, ownedBy r i → h.n ≤ i) (fun _ _ => False) := by
  have hr0 := hr
  obtain ⟨a, cap, rfl, hlen, hc⟩ := hr
  refine zxQ_runs ?_
  cases a with
  | none =>
    have hl : l = [] := by
      cases l with
      | nil => rfl
      | cons b l => obtain ⟨_, _, _, h1, _⟩ := hc (by simp); cases h1
    subst hl
    refine stp ?_
    exact ⟨.none, Fr.refl, fun i hi => hi.elim⟩
  | some a =>
    refine stp ?_
    refine appendLitV hr0 hs (by omega) (fun v' h' h1 h2 h3 => ?_)
    refine stp ?_
    exact ⟨h1, h2, h3⟩
end Go.Proofs.Ytmhnddkpiefkhaa.A

namespace Go.Proofs.Ytmhnddkpiefkhaa.A
open Go Go.Vm
set_option maxRecDepth 10000
set_option linter.unusedVariables false
structure BkRd (h : Heap) (x : Bk) (sv sl : Value) : Prop where
  hd : x.h.ok
  hash : x.c.hash.length = 32
  sv : Rd h 2 sv (tcells x.c.votes) x.c.votes.length
  sl : Rd h 5 sl (vcells x.vals) x.vals.length
theorem BkRd.keep {S : Nat → Prop} {h h' : Heap} {x : Bk} {sv sl : Value} (hb : BkRd h x sv sl) (hf : Fr S h h') (hs : ∀ i, i < h.n → ¬ S i) : BkRd h' x sv sl :=
  ⟨hb.hd, hb.hash, hb.sv.keep hf fun i hi => hs i (Rd.block_lt hb.sv hi), hb.sl.keep hf fun i hi => hs i (Rd.block_lt hb.sl hi)⟩
end Go.Proofs.Ytmhnddkpiefkhaa.A

namespace Go.Proofs.Ytmhnddkpiefkhaa.A
open Go Go.Vm
set_option maxRecDepth 10000
set_option linter.unusedVariables false
theorem LongBlock_ok {h : Heap} {x : Bk} {sv sl : Value} (hb : BkRd h x sv sl) :
    Runs Try.prog T0 (.fn fn_zgQ) [.agg ⟨x.cells sv sl⟩] h (fun r h' => (∃ b : Bool, r = .bool b ∧ (b = false → x.vals.length ≤ 70 ∧ x.c.votes.length ≤ 70 ∧ x.h.chain.length ≤ 60)) ∧ Fr (fun _ => False) h h') (fun _ _ => False) := by
  have hx := hb.hd
  have hch := hb.hash
  haveI := l32 hx.prev
  haveI := l32 hx.vals
  haveI := l32 hx.next
  haveI := l32 hx.app
  haveI := l32 hch
  obtain ⟨a1, c1, rfl, _, _⟩ := id hb.sv
  obtain ⟨a2, c2, rfl, _, _⟩ := id hb.sl
  have hsz : (ByteArray.mk ⟨x.h.chain⟩).size = x.h.chain.length := rfl
  refine zgQ_runs ?_
  refine stp ?_
  refine O.dec (fun h1 => ?_) (fun h1 => ?_)
  · refine stp ?_
    exact ⟨⟨true, rfl, fun h => by cases h⟩, Fr.refl.push⟩
  refine stp ?_
  refine O.dec (fun h2 => ?_) (fun h2 => ?_)
  · refine stp ?_
    exact ⟨⟨true, rfl, fun h => by cases h⟩, Fr.refl.push⟩
  refine stp ?_
  exact ⟨⟨_, rfl, fun h => by have := of_decide_eq_false h; omega⟩, Fr.refl.push⟩
theorem tcells_oneE : ∀ l : List Vote, (tcells l).all Value.oneCell' = true
  | [] => rfl
  | v :: l => by rw [tcells_cons, List.all_append, tcells_oneE l]; rfl
theorem appendLitC {P : Program} {T : Table} {ts : List Value} {ds : List Deferred} {h : Heap} {rd : Option Nat} {dst bytes el : Nat} {x y : Operand} {chk : List (Option Nat × AOp × Option (Nat × Bool))} {pan : Bool} {rest : List AOper} {Q : QP} {F : Value → List Value} {w : Value} {l : List Vote} {zero : List Value}
    [e1 : Ev ts x (.slice (some ⟨h.n, 0, none⟩) 0 0)] [e2 : Ev ts y w] [s : LSetF ts dst F] (hv : Rd h 2 w (tcells l) l.length) (hs : l.length < 1048576) (hb : bytes < 1048576)
    (hk : ∀ v' h', Own h' 2 v' (tcells l) l.length → Fr (fun _ => False) h h' → (∀ i, ownedBy v' i → h.n ≤ i) → RunO P T rest ⟨F v', ds, h', rd⟩ Q) :
    RunO P T (⟨some dst, .append el 2 bytes zero false x y, none, chk, pan⟩ :: rest) ⟨ts, ds, h.push (.cells [] 0), rd⟩ Q := by
  have f0 : Fr (fun _ => False) h (h.push (.cells [] 0)) := Fr.refl.push
  have hz : Own (h.push (.cells [] 0)) 2 (.slice (some ⟨h.n, 0, none⟩) 0 0) [] 0 := .lit (by simp) (by rw [Heap.get_push, if_pos rfl])
  have one := tcells_oneE l
  refine O.append hz ((hv.keep f0 fun _ _ => id).new _) (tcells_len l) one (by omega) (by omega) (by omega) (fun v' h' h1 h2 h3 => ?_)
  rw [Nat.zero_add, List.nil_append] at h1
  refine hk v' h' h1 (f0.trans (S := fun _ => False) h2 fun i hi ho => ?_) fun i hi => ?_
  · have : h.n = i := ho
    omega
  · rcases h3 i hi with h4 | h4
    · have : h.n = i := h4
      omega
    · simp at h4; omega
end Go.Proofs.Ytmhnddkpiefkhaa.A

namespace Go.Proofs.Ytmhnddkpiefkhaa.A
open Go Go.Vm
set_option maxRecDepth 10000
set_option linter.unusedVariables false
def ncells (l : List Int) : List Value := l.map fun n => .int .i64 n
theorem ncells_len (l : List Int) : (ncells l).length = l.length := by simp [ncells]
theorem ncell_at {h : Heap} {b o n k : Nat} {l : List Int} (hc : cellsAt h b o (n * 1) = some (ncells l)) (hn : l.length = n) (hk : k < n) : Cell h b (o + k) (.int .i64 (l.getD k 0)) := ⟨by
  have := cellsAt_sub (k := k) (m := 1) hc (by omega)
  rw [this]
  subst hn
  unfold ncells
  have g : l.getD k 0 = l[k] := by simp [List.getD, hk]
  rw [← List.map_drop, List.drop_eq_getElem_cons hk, List.map_cons, g]
  rfl⟩
end Go.Proofs.Ytmhnddkpiefkhaa.A

namespace Go.Proofs.Ytmhnddkpiefkhaa.A
open Go Go.Vm
set_option maxRecDepth 10000
set_option linter.unusedVariables false
theorem one_int {h : Heap} {n : Int} {es : Nat} : newCells (h.push (.cells [.int .i64 n] es)) 1 [.int .i64 0] false (.slice (some ⟨h.n, 0, none⟩) 1 1) = some (1, [.int .i64 n]) :=
  (Rd.mk (size := 1) (n := 1) (cap := 1) (sp := none) (o := 0) (b := h.n) (c := [.int .i64 n]) (by simp) (by rw [cellsAt_of (c := [.int .i64 n]) (by rw [Heap.get_push, if_pos rfl]; rfl) (by simp)]; rfl)).new _
theorem ncells_append (l m : List Int) : ncells (l ++ m) = ncells l ++ ncells m := by simp [ncells]
end Go.Proofs.Ytmhnddkpiefkhaa.A

namespace Go.Proofs.Ytmhnddkpiefkhaa.A
open Go Go.Vm
set_option maxRecDepth 10000
set_option linter.unusedVariables false
end Go.Proofs.Ytmhnddkpiefkhaa.A

namespace Go.Proofs.Ytmhnddkpiefkhaa.A
open Go Go.Vm
set_option maxRecDepth 10000
set_option linter.unusedVariables false
section
variable {α : Type} [Inhabited α] {lt : α → α → Bool}
abbrev at' (l : List α) (i : Nat) : α := l.getD i default
theorem at_set {l : List α} {i k : Nat} {x : α} (hi : i < l.length) : at' (l.set i x) k = if k = i then x else at' l k := by
  simp only [at', List.getD_eq_getElem?_getD, List.getElem?_set]
  by_cases h : i = k
  · subst h; simp [hi]
  · rw [if_neg h, if_neg (fun e => h e.symm)]
theorem at_mem {l : List α} {i : Nat} (hi : i < l.length) : at' l i ∈ l := by
  simp only [at', List.getD_eq_getElem?_getD, List.getElem?_eq_getElem hi, Option.getD_some]
  exact List.getElem_mem hi
theorem at_ext {l m : List α} (hl : l.length = m.length) (h : ∀ k, k < l.length → at' l k = at' m k) : l = m := by
  refine List.ext_getElem hl fun i h1 h2 => ?_
  have := h i h1
  simpa only [at', List.getD_eq_getElem?_getD, List.getElem?_eq_getElem h1, List.getElem?_eq_getElem h2, Option.getD_some] using this
theorem at_take {l : List α} {n k : Nat} (hk : k < n) : at' (l.take n) k = at' l k := by
  simp only [at', List.getD_eq_getElem?_getD, List.getElem?_take, if_pos hk]
theorem at_append {l m : List α} {k : Nat} (hk : k < l.length) : at' (l ++ m) k = at' l k := by
  simp only [at', List.getD_eq_getElem?_getD, List.getElem?_append_left hk]
def swp (l : List α) (i j : Nat) : List α := (l.set i (at' l j)).set j (at' l i)
theorem swp_len {l : List α} {i j : Nat} : (swp l i j).length = l.length := by simp [swp]
theorem swp_at {l : List α} {i j k : Nat} (hi : i < l.length) (hj : j < l.length) : at' (swp l i j) k = if k = j then at' l i else if k = i then at' l j else at' l k := by
  unfold swp
  rw [at_set (by simpa using hj), at_set hi]
theorem swp_perm {l : List α} {i j : Nat} (hi : i < l.length) (hj : j < l.length) : (swp l i j).Perm l := by
  classical
  rw [List.perm_iff_count]
  intro b
  have e1 : at' l i = l[i] := by simp only [at', List.getD_eq_getElem?_getD, List.getElem?_eq_getElem hi, Option.getD_some]
  have e2 : at' l j = l[j] := by simp only [at', List.getD_eq_getElem?_getD, List.getElem?_eq_getElem hj, Option.getD_some]
  unfold swp
  rw [e1, e2, List.count_set (by simpa using hj), List.count_set hi]
  have c1 : l[i] = b → 0 < l.count b := fun e => List.count_pos_iff.2 (by rw [← e]; exact List.getElem_mem hi)
  rw [List.getElem_set]
  by_cases h : i = j
  · subst h
    simp only [if_true]
    by_cases h1 : l[i] = b
    · have := c1 h1; simp only [h1, beq_self_eq_true, if_true]; omega
    · have : (l[i] == b) = false := by simpa using h1
      simp only [this]; simp
  · rw [if_neg h]
    by_cases h1 : l[i] = b <;> by_cases h2 : l[j] = b
    · have := c1 h1; simp only [h1, h2, beq_self_eq_true, if_true]; omega
    · have h2' : (l[j] == b) = false := by simpa using h2
      have := c1 h1
      simp only [h1, h2', beq_self_eq_true, if_true]; simp; omega
    · have h1' : (l[i] == b) = false := by simpa using h1
      simp only [h1', h2, beq_self_eq_true, if_true]; simp
    · have h1' : (l[i] == b) = false := by simpa using h1
      have h2' : (l[j] == b) = false := by simpa using h2
      simp only [h1', h2']; simp
structure Ord (lt : α → α → Bool) : Prop where
  asy : ∀ a b, lt a b = true → lt b a = false
  tr : ∀ a b c, lt b a = false → lt c b = false → lt c a = false
abbrev edge (lt : α → α → Bool) (l : List α) (k : Nat) : Prop := lt (at' l k) (at' l ((k - 1) / 2)) = false
def HeapP (lt : α → α → Bool) (lo n : Nat) (l : List α) : Prop := ∀ k, 0 < k → k < n → lo ≤ (k - 1) / 2 → edge lt l k
def kid (lt : α → α → Bool) (l : List α) (i n : Nat) : Nat := if 2 * i + 2 < n ∧ lt (at' l (2 * i + 2)) (at' l (2 * i + 1)) = true then 2 * i + 2 else 2 * i + 1
def downF (lt : α → α → Bool) : Nat → List α → Nat → Nat → List α × Nat
  | 0, l, i, _ => (l, i)
  | m + 1, l, i, n => if n ≤ 2 * i + 1 then (l, i) else if lt (at' l (kid lt l i n)) (at' l i) then downF lt m (swp l i (kid lt l i n)) (kid lt l i n) n else (l, i)
structure DInv (lt : α → α → Bool) (lo n i : Nat) (b : Prop) (l : List α) : Prop where
  a : ∀ k, 0 < k → k < n → lo ≤ (k - 1) / 2 → (k - 1) / 2 ≠ i → (k = i → b) → edge lt l k
  c : ∀ k, 0 < k → k < n → (k - 1) / 2 = i → 0 < i → lo ≤ (i - 1) / 2 → lt (at' l k) (at' l ((i - 1) / 2)) = false
theorem kid_lt {l : List α} {i n : Nat} (h : 2 * i + 1 < n) : kid lt l i n < n ∧ (kid lt l i n - 1) / 2 = i ∧ i < kid lt l i n := by
  unfold kid
  split
  · rename_i h1; exact ⟨h1.1, by omega, by omega⟩
  · exact ⟨h, by omega, by omega⟩
theorem kid_least (O : Ord lt) {l : List α} {i n k : Nat} (hk : k < n) (h0 : 0 < k) (hp : (k - 1) / 2 = i) : lt (at' l k) (at' l (kid lt l i n)) = false := by
  have hirr : ∀ a, lt a a = false := fun a => by
    cases h : lt a a with
    | false => rfl
    | true => rw [← O.asy a a h, h]
  unfold kid
  have : k = 2 * i + 1 ∨ k = 2 * i + 2 := by omega
  split
  · rename_i h1
    rcases this with rfl | rfl
    · exact O.asy _ _ h1.2
    · exact hirr _
  · rename_i h1
    rcases this with rfl | rfl
    · exact hirr _
    · have : ¬ lt (at' l (2 * i + 2)) (at' l (2 * i + 1)) = true := fun h => h1 ⟨hk, h⟩
      simpa using this
theorem DInv.step (O : Ord lt) {lo n i : Nat} {b : Prop} {l : List α} (h : DInv lt lo n i b l) (hl : n ≤ l.length) (hn : 2 * i + 1 < n) (hlo : lo ≤ i) (hlt : lt (at' l (kid lt l i n)) (at' l i) = true) : DInv lt lo n (kid lt l i n) True (swp l i (kid lt l i n)) := by
  obtain ⟨k1, k2, k3⟩ := kid_lt (lt := lt) (l := l) hn
  have hmin := fun {k : Nat} (a : k < n) (b : 0 < k) (c : (k - 1) / 2 = i) => kid_least O (l := l) a b c
  generalize kid lt l i n = j at *
  have ha := fun k => swp_at (l := l) (i := i) (j := j) (k := k) (by omega) (by omega)
  refine ⟨fun k h0 hk hlk hp _ => ?_, fun k h0 hk hp _ hlk => ?_⟩
  · show lt (at' (swp l i j) k) (at' (swp l i j) ((k - 1) / 2)) = false
    rw [ha, ha, if_neg hp]
    by_cases e1 : k = j
    · rw [if_pos e1, if_pos (by rw [e1]; exact k2)]
      exact O.asy _ _ hlt
    · rw [if_neg e1]
      by_cases e2 : k = i
      · rw [if_pos e2, if_neg (by omega), e2]
        exact h.c j (by omega) k1 k2 (by omega) (by rw [← e2]; exact hlk)
      · rw [if_neg e2]
        by_cases e3 : (k - 1) / 2 = i
        · rw [if_pos e3]
          exact hmin hk h0 e3
        · rw [if_neg e3]
          exact h.a k h0 hk hlk e3 fun e => absurd e e2
  · rw [ha, ha, k2, if_neg (by omega), if_neg (by omega), if_neg (by omega), if_pos rfl]
    have := h.a k h0 hk (by omega) (by omega) (fun e => by omega)
    show lt (at' l k) (at' l j) = false
    rw [← hp]
    exact this
theorem down_spec (O : Ord lt) : ∀ (m : Nat) (l : List α) (i n lo : Nat) (b : Prop), DInv lt lo n i b l → n ≤ l.length → lo ≤ i → n - i < m →
    (downF lt m l i n).1.length = l.length ∧ (downF lt m l i n).1.Perm l ∧ (∀ k, n ≤ k → at' (downF lt m l i n).1 k = at' l k) ∧ i ≤ (downF lt m l i n).2 ∧ ((downF lt m l i n).2 = i → (downF lt m l i n).1 = l) ∧
    (∀ k, 0 < k → k < n → lo ≤ (k - 1) / 2 → (k = i → b ∨ i < (downF lt m l i n).2) → edge lt (downF lt m l i n).1 k) := by
  intro m
  induction m with
  | zero => intro l i n lo b h hl hlo hm; omega
  | succ m ih =>
    intro l i n lo b h hl hlo hm
    unfold downF
    split
    · rename_i h1
      refine ⟨rfl, .refl _, fun _ _ => rfl, Nat.le_refl _, fun _ => rfl, fun k h0 hk hlk hb => ?_⟩
      exact h.a k h0 hk hlk (by omega) fun e => (hb e).elim id fun e => absurd e (Nat.lt_irrefl _)
    · rename_i h1
      have h1 : 2 * i + 1 < n := by omega
      obtain ⟨k1, k2, k3⟩ := kid_lt (lt := lt) (l := l) h1
      split
      · rename_i h2
        have h3 := h.step O hl h1 hlo h2
        have hk := ih (swp l i (kid lt l i n)) (kid lt l i n) n lo True h3 (by rw [swp_len]; exact hl) (by omega) (by omega)
        generalize kid lt l i n = j at *
        obtain ⟨a1, a2, a3, a4, a5, a6⟩ := hk
        refine ⟨by rw [a1, swp_len], a2.trans (swp_perm (by omega) (by omega)), fun k hk => ?_, by omega, fun e => by omega, fun k h0 hk hlk _ => a6 k h0 hk hlk fun _ => .inl trivial⟩
        rw [a3 k hk, swp_at (by omega) (by omega), if_neg (by omega), if_neg (by omega)]
      · rename_i h2
        refine ⟨rfl, .refl _, fun _ _ => rfl, Nat.le_refl _, fun _ => rfl, fun k h0 hk hlk hb => ?_⟩
        by_cases e : (k - 1) / 2 = i
        · have h4 : lt (at' l (kid lt l i n)) (at' l i) = false := by simpa using h2
          show lt (at' l k) (at' l ((k - 1) / 2)) = false
          rw [e]
          exact O.tr _ _ _ h4 (kid_least O hk h0 e)
        · exact h.a k h0 hk hlk e fun e => (hb e).elim id fun e => absurd e (Nat.lt_irrefl _)
structure UInv (lt : α → α → Bool) (n j : Nat) (l : List α) : Prop where
  a : ∀ k, 0 < k → k < n → k ≠ j → edge lt l k
  c : ∀ k, 0 < k → k < n → (k - 1) / 2 = j → 0 < j → lt (at' l k) (at' l ((j - 1) / 2)) = false
theorem UInv.step (O : Ord lt) {n j : Nat} {l : List α} (h : UInv lt n j l) (hl : n ≤ l.length) (hj : j < n) (h0 : 0 < j) (hlt : lt (at' l j) (at' l ((j - 1) / 2)) = true) : UInv lt n ((j - 1) / 2) (swp l ((j - 1) / 2) j) := by
  generalize hi : (j - 1) / 2 = i at *
  have ha := fun k => swp_at (l := l) (i := i) (j := j) (k := k) (by omega) (by omega)
  refine ⟨fun k h1 hk hne => ?_, fun k h1 hk hp h2 => ?_⟩
  · show lt (at' (swp l i j) k) (at' (swp l i j) ((k - 1) / 2)) = false
    rw [ha, ha]
    by_cases e1 : k = j
    · rw [if_pos e1, if_neg (by omega), if_pos (by rw [e1]; exact hi)]
      exact O.asy _ _ hlt
    · rw [if_neg e1, if_neg hne]
      by_cases e2 : (k - 1) / 2 = j
      · rw [if_pos e2]
        have := h.c k h1 hk e2 h0
        rw [hi] at this
        exact this
      · rw [if_neg e2]
        by_cases e3 : (k - 1) / 2 = i
        · rw [if_pos e3]
          have := h.a k h1 hk e1
          rw [edge, e3] at this
          exact O.tr _ _ _ (O.asy _ _ hlt) this
        · rw [if_neg e3]
          exact h.a k h1 hk e1
  · have h4 : lt (at' l i) (at' l ((i - 1) / 2)) = false := h.a i h2 (by omega) (by omega)
    rw [ha, ha, if_neg (by omega : (i - 1) / 2 ≠ j), if_neg (by omega : (i - 1) / 2 ≠ i)]
    by_cases e1 : k = j
    · rw [if_pos e1]; exact h4
    · rw [if_neg e1, if_neg (by omega)]
      have := h.a k h1 hk e1
      rw [edge, hp] at this
      exact O.tr _ _ _ h4 this
def initG (lt : α → α → Bool) : Nat → List α → List α
  | 0, l => l
  | i + 1, l => initG lt i (downF lt (l.length + 1) l i l.length).1
def initF (lt : α → α → Bool) (l : List α) : List α := initG lt (l.length / 2) l
def outF (lt : α → α → Bool) (l : List α) : List α := (downF lt l.length (swp l 0 (l.length - 1)) 0 (l.length - 1)).1
theorem initG_spec (O : Ord lt) : ∀ (i : Nat) (l : List α), HeapP lt i l.length l → (initG lt i l).length = l.length ∧ (initG lt i l).Perm l ∧ HeapP lt 0 l.length (initG lt i l) := by
  intro i
  induction i with
  | zero => intro l h; exact ⟨rfl, .refl _, h⟩
  | succ i ih =>
    intro l h
    unfold initG
    have hd : DInv lt i l.length i False l := ⟨fun k h0 hk hlk hp _ => h k h0 hk (by omega), fun k h0 hk hp hi hlo => by omega⟩
    obtain ⟨a1, a2, a3, a4, a5, a6⟩ := down_spec O (l.length + 1) l i l.length i False hd (Nat.le_refl _) (Nat.le_refl _) (by omega)
    generalize (downF lt (l.length + 1) l i l.length).2 = i2 at *
    generalize (downF lt (l.length + 1) l i l.length).1 = l2 at *
    obtain ⟨b1, b2, b3⟩ := ih l2 (fun k h0 hk hlk => a6 k h0 (by omega) hlk fun e => by omega)
    exact ⟨by omega, b2.trans a2, by rw [← a1]; exact b3⟩
theorem init_spec (O : Ord lt) (l : List α) : (initF lt l).length = l.length ∧ (initF lt l).Perm l ∧ HeapP lt 0 l.length (initF lt l) :=
  initG_spec O _ l fun k h0 hk hlo => by omega
theorem root_least (O : Ord lt) {l : List α} (h : HeapP lt 0 l.length l) : ∀ (k : Nat), k < l.length → lt (at' l k) (at' l 0) = false := by
  intro k
  induction k using Nat.strongRecOn with
  | _ k ih =>
    intro hk
    by_cases h0 : k = 0
    · subst h0
      cases e : lt (at' l 0) (at' l 0) with
      | false => rfl
      | true => rw [← O.asy _ _ e, e]
    · exact O.tr _ _ _ (ih ((k - 1) / 2) (by omega) (by omega)) (h k (by omega) hk (Nat.zero_le _))
theorem root_le (O : Ord lt) {l : List α} (h : HeapP lt 0 l.length l) {x : α} (hx : x ∈ l) : lt x (at' l 0) = false := by
  obtain ⟨k, hk, rfl⟩ := List.mem_iff_getElem.1 hx
  have := root_least O h k hk
  simpa only [at', List.getD_eq_getElem?_getD, List.getElem?_eq_getElem hk, Option.getD_some] using this
theorem last_perm {l : List α} (h : 0 < l.length) : (at' l (l.length - 1) :: l.take (l.length - 1)).Perm l := by
  have e : l = l.take (l.length - 1) ++ [at' l (l.length - 1)] := by
    refine at_ext (by simp; omega) fun k hk => ?_
    by_cases h1 : k < l.length - 1
    · rw [at_append (by simp; omega), at_take h1]
    · obtain rfl : k = l.length - 1 := by omega
      simp only [at', List.getD_eq_getElem?_getD]
      rw [List.getElem?_append_right (by simp), List.length_take]
      rw [show l.length - 1 - min (l.length - 1) l.length = 0 by omega]
      rfl
  conv => rhs; rw [e]
  exact (List.perm_append_singleton _ _).symm
theorem heap_take {l : List α} {n : Nat} (hn : n ≤ l.length) (h : HeapP lt 0 n l) : HeapP lt 0 (l.take n).length (l.take n) := by
  intro k h0 hk hlo
  rw [List.length_take] at hk
  have := h k h0 (by omega) hlo
  show lt (at' (l.take n) k) (at' (l.take n) ((k - 1) / 2)) = false
  rw [at_take (by omega), at_take (by omega)]
  exact this
theorem out_spec (O : Ord lt) {l : List α} (h : HeapP lt 0 l.length l) (hl : 0 < l.length) : (outF lt l).length = l.length ∧ at' (outF lt l) (l.length - 1) = at' l 0 ∧ (at' l 0 :: (outF lt l).take (l.length - 1)).Perm l ∧ HeapP lt 0 (l.length - 1) ((outF lt l).take (l.length - 1)) := by
  have ha := fun k => swp_at (l := l) (i := 0) (j := l.length - 1) (k := k) (by omega) (by omega)
  have hd : DInv lt 0 (l.length - 1) 0 False (swp l 0 (l.length - 1)) := ⟨fun k h0 hk hlk hp _ => by
    show lt (at' (swp l 0 (l.length - 1)) k) (at' (swp l 0 (l.length - 1)) ((k - 1) / 2)) = false
    rw [ha, ha, if_neg (by omega), if_neg (by omega), if_neg (by omega), if_neg (by omega)]
    exact h k h0 (by omega) hlk, fun k h0 hk hp hi hlo => by omega⟩
  obtain ⟨a1, a2, a3, a4, a5, a6⟩ := down_spec O l.length (swp l 0 (l.length - 1)) 0 (l.length - 1) 0 False hd (by rw [swp_len]; omega) (Nat.le_refl _) (by omega)
  have e1 : (outF lt l).length = l.length := by rw [outF, a1, swp_len]
  have e2 : at' (outF lt l) (l.length - 1) = at' l 0 := by
    rw [outF, a3 _ (Nat.le_refl _), ha, if_pos rfl]
  refine ⟨e1, e2, ?_, ?_⟩
  · have := last_perm (l := outF lt l) (by omega)
    rw [e1, e2] at this
    exact this.trans (a2.trans (swp_perm (by omega) (by omega)))
  · have := heap_take (lt := lt) (l := outF lt l) (n := l.length - 1) (by omega) (fun k h0 hk hlo => a6 k h0 hk hlo fun e => by omega)
    rw [List.length_take, e1] at this
    rw [show min (l.length - 1) l.length = l.length - 1 by omega] at this
    exact this
end
end Go.Proofs.Ytmhnddkpiefkhaa.A

namespace Go.Proofs.Ytmhnddkpiefkhaa.A
open Go Go.Vm
set_option maxRecDepth 10000
set_option linter.unusedVariables false
structure HeapI {α : Type} [Inhabited α] (lt : α → α → Bool) (t : TypeId) (v : Value) (St : Heap → List α → Prop) : Prop where
  bd : ∀ {h l}, St h l → l.length < 1000000
  len : ∀ {h l}, St h l → MRuns Try.prog T0 t v "Len" [] h (fun r h' => r = .int .i64 l.length ∧ St h' l)
  less : ∀ {h l} {i k : Nat}, St h l → i < l.length → k < l.length → MRuns Try.prog T0 t v "Less" [.int .i64 i, .int .i64 k] h (fun r h' => r = .bool (lt (at' l i) (at' l k)) ∧ St h' l)
  swap : ∀ {h l} {i k : Nat}, St h l → i < l.length → k < l.length → MRuns Try.prog T0 t v "Swap" [.int .i64 i, .int .i64 k] h (fun r h' => St h' (swp l i k))
section
variable {α : Type} [Inhabited α] {lt : α → α → Bool} {t : TypeId} {v : Value} {St : Heap → List α → Prop}
theorem down_len : ∀ (q : Nat) (l : List α) (i n : Nat), (downF lt q l i n).1.length = l.length
  | 0, _, _, _ => rfl
  | q + 1, l, i, n => by
    unfold downF
    split
    · rfl
    · split
      · rw [down_len q, swp_len]
      · rfl
set_option maxHeartbeats 4000000 in
theorem down_ok (H : HeapI lt t v St) {h : Heap} {l : List α} {i n q : Nat} (hs : St h l) (hn : n ≤ l.length) (hi : i ≤ n) (hq : n - i < q) :
    Runs Try.prog T0 (.fn fn_zfQ) [.iface t v, .int .i64 i, .int .i64 n] h (fun r h' => r = .bool (decide ((i : Int) < ((downF lt q l i n).2 : Nat))) ∧ St h' (downF lt q l i n).1) (fun _ _ => False) := by
  have hb0 := H.bd hs
  refine zfQ_runs ?_
  refine stp ?_
  refine loop1 zfQ_l0_M 7 (fun k v7 hx => ∃ (j : Nat) (l' : List α), v7 = .int .i64 j ∧ St hx l' ∧ l'.length = l.length ∧ downF lt k l' j n = downF lt q l i n ∧ j ≤ n ∧ n - j < k) ?_ q ⟨i, l, rfl, hs, rfl, rfl, hi, hq⟩
  rintro m v7 h' x8 x9 x10 x12 x13 x14 x15 x16 x17 x18 x19 x20 x21 x22 x23 x24 x25 x26 x27 x28 x29 x30 x31 x32 x33 x34 x35 x36 x37 x38 x39 x40 x41 x42 x43 x44 ⟨j, l', rfl, hs', hl', he, hj, hk⟩
  obtain ⟨k, rfl⟩ : ∃ k', m = k' + 1 := ⟨m - 1, by omega⟩
  have ej : ((2 : Int) * (j : Int)) + 1 = ((2 * j + 1 : Nat) : Int) := by omega
  have ej2 : ((2 * j + 1 : Nat) : Int) + 1 = ((2 * j + 2 : Nat) : Int) := by omega
  rw [downF] at he
  haveI : InR .i64 ((2 : Int) * (j : Int)) := inr_i64 (by omega)
  refine stp ?_
  rw [ej]
  refine O.dec (fun h1 => ?_) (fun h1 => ?_)
  · refine stp ?_
    rw [if_pos (by omega)] at he
    rw [← he]
    exact ⟨rfl, hs'⟩
  rw [if_neg (by omega)] at he
  refine stp ?_
  rw [ej2]
  have hkid := kid_lt (lt := lt) (l := l') (i := j) (n := n) (by omega)
  refine O.dec (fun h2 => ?pos) (fun h2 => ?neg)
  case' pos =>
    refine stp ?_
    refine O.methT (H.less hs' (by omega) (by omega)) (fun r h3 hr => ?_)
    obtain ⟨rfl, hs3⟩ := hr
    refine stp ?_
    refine C.ifB (fun h4 => ?two) (fun h4 => ?one)
  case' two =>
    have hkd : kid lt l' j n = 2 * j + 2 := by unfold kid; rw [if_pos ⟨by omega, h4⟩]
  case' one =>
    have hkd : kid lt l' j n = 2 * j + 1 := by unfold kid; rw [if_neg (fun e => by rw [h4] at e; exact absurd e.2 (by decide))]
  case' neg =>
    have hkd : kid lt l' j n = 2 * j + 1 := by unfold kid; rw [if_neg (fun e => h2 (by omega))]
    have hs3 := hs'
  all_goals
    rw [hkd] at he hkid
    refine stp ?_
    refine O.meth (H.less hs3 (by omega) (by omega)) (fun r h5 hr => ?_)
    obtain ⟨rfl, hs5⟩ := hr
    refine stp ?_
    refine C.ifB (fun h6 => ?_) (fun h6 => ?_)
    · refine stp ?_
      rw [if_neg (by intro e; rw [e] at h6; exact absurd h6 (by decide))] at he
      rw [← he]
      exact ⟨rfl, hs5⟩
    · refine stp ?_
      refine O.meth (H.swap hs5 (by omega) (by omega)) (fun r h7 hs7 => ?_)
      refine stp ?_
      rw [if_pos (by simpa using h6)] at he
      exact loop1a 7 k (by omega) ⟨_, _, rfl, hs7, by rw [swp_len]; exact hl', he, by omega, by omega⟩
set_option maxHeartbeats 4000000 in
theorem init_ok (H : HeapI lt t v St) {h : Heap} {l : List α} (hs : St h l) :
    Runs Try.prog T0 (.fn fn_zdQ) [.iface t v] h (fun r h' => St h' (initF lt l)) (fun _ _ => False) := by
  have hb0 := H.bd hs
  refine zdQ_runs ?_
  refine stp ?_
  refine O.meth (H.len hs) (fun r h1 hr => ?_)
  obtain ⟨rfl, hs1⟩ := hr
  refine stp ?_
  refine O.how (XOp.quoI (by decide)) ?_
  have e1 : IntKind.i64.wrap ((l.length : Int).tdiv 2) = ((l.length / 2 : Nat) : Int) := by
    have : (l.length : Int).tdiv 2 = ((l.length / 2 : Nat) : Int) := by
      rw [Int.tdiv_eq_ediv_of_nonneg (by omega)]; omega
    rw [this]
    exact (inr_i64 (by omega)).eq
  rw [e1]
  refine stp ?_
  refine loop1 zdQ_l0_M 3 (fun k v3 hx => ∃ l', v3 = .int .i64 ((k : Int) - 1) ∧ St hx l' ∧ l'.length = l.length ∧ initG lt k l' = initF lt l ∧ k ≤ l.length) ?_ (l.length / 2) ⟨l, rfl, hs1, rfl, rfl, by omega⟩
  rintro m v3 h' x9 x10 x11 x12 x13 x14 x15 x16 ⟨l', rfl, hs', hl', he, hk⟩
  refine stp ?_
  refine C.if (fun h2 => ?_) (fun h2 => ?_)
  · obtain ⟨k, rfl⟩ : ∃ k', m = k' + 1 := ⟨m - 1, by omega⟩
    have ek : ((k + 1 : Nat) : Int) - 1 = (k : Int) := by omega
    rw [ek]
    refine stp ?_
    rw [← hl']
    refine O.call' (down_ok H hs' (q := l'.length + 1) (i := k) (n := l'.length) (Nat.le_refl _) (by omega) (by omega)) (fun r h3 hr => ?_)
    obtain ⟨rfl, hs3⟩ := hr
    refine stp ?_
    rw [initG] at he
    exact loop1a 3 k (by omega) ⟨_, rfl, hs3, by rw [down_len], he, by omega⟩
  · refine stp ?_
    obtain rfl : m = 0 := by omega
    rw [initG] at he
    rw [← he]
    exact hs'
theorem pop_ok (H : HeapI lt t v St) {h : Heap} {l : List α} {R : RP} (hs : St h l) (hl : 0 < l.length) (hp : ∀ hx, St hx (outF lt l) → MRuns Try.prog T0 t v "Pop" [] hx R) :
    Runs Try.prog T0 (.fn fn_zeQ) [.iface t v] h R (fun _ _ => False) := by
  have hb0 := H.bd hs
  refine zeQ_runs ?_
  refine stp ?_
  refine O.meth (H.len hs) (fun r h1 hr => ?_)
  obtain ⟨rfl, hs1⟩ := hr
  have e1 : (l.length : Int) - 1 = ((l.length - 1 : Nat) : Int) := by omega
  refine stp ?_
  rw [e1]
  refine stp ?_
  refine O.meth (H.swap (i := 0) hs1 hl (by omega)) (fun r h2 hs2 => ?_)
  refine stp ?_
  refine O.call' (down_ok H (i := 0) (q := l.length) (n := l.length - 1) hs2 (by rw [swp_len]; omega) (by omega) (by omega)) (fun r h3 hr => ?_)
  obtain ⟨rfl, hs3⟩ := hr
  refine stp ?_
  refine O.meth (hp _ hs3) (fun r h4 hr => ?_)
  refine stp ?_
  exact hr
end
end Go.Proofs.Ytmhnddkpiefkhaa.A

namespace Go.Proofs.Ytmhnddkpiefkhaa.A
open Go Go.Vm
set_option maxRecDepth 10000
set_option linter.unusedVariables false
theorem nodup_sub_len {α : Type} : ∀ {l m : List α}, l.Nodup → (∀ a ∈ l, a ∈ m) → l.length ≤ m.length
  | [], _, _, _ => Nat.zero_le _
  | a :: l, m, hl, h => by
    obtain ⟨p, q, rfl⟩ := List.append_of_mem (h a (by simp))
    have hl' := List.nodup_cons.1 hl
    have := nodup_sub_len (l := l) (m := p ++ q) hl'.2 fun b hb => by
      have h1 := h b (by simp [hb])
      simp only [List.mem_append, List.mem_cons] at h1 ⊢
      rcases h1 with h1 | rfl | h1
      · exact .inl h1
      · exact absurd hb hl'.1
      · exact .inr h1
    simp only [List.length_append, List.length_cons] at this ⊢
    omega
theorem tell_len {l d : List Ent} (h : TellE l d) : d.length ≤ l.length := nodup_sub_len (nodup_of_map _ h.t) h.mem
theorem Keys_ok {h : Heap} {m : Nat} : Runs Try.prog T0 (.fn fn_zsQ) [.map (some m)] h (fun r h' => r = .func (.func fn_ztQ) ⟨[]⟩ ⟨[.pointer (some ⟨h.n, 0, none⟩)]⟩ ∧ h'.n = h.n + 1 ∧ h'.get h.n = .cells [.map (some m)] 0 ∧ Fr (fun _ => False) h h') (fun _ _ => False) := by
  refine zsQ_runs ?_
  refine stp ?_
  exact ⟨rfl, rfl, HGet.new.eq, Fr.refl.push⟩
set_option maxHeartbeats 4000000 in
theorem keys1_ok {h : Heap} {bx m c y : Nat} {l : List Ent} {I : List Ent → Heap → Prop} (hbx : h.get bx = .cells [.map (some m)] 0) (hb : bx < h.n) (hm : h.get m = .map (ents l) c) (ml : m < h.n) (ok : EntsOK l c)
    (h0 : ∀ hx, Fr (fun _ => False) h hx → I [] hx)
    (hk : ∀ d hx hx', I d hx → Fr (fun i => i = h.n) hx hx' → I d hx')
    (hr : ∀ d e hx, h.n < hx.n → I d hx → e ∈ l → d.length < l.length → Runs Try.prog T0 (.yield y) [.int .i64 e.k] hx (fun r h' => r = .bool true ∧ I (d ++ [e]) h' ∧ Fr (fun i => i ≠ h.n ∧ i ≠ m) hx h') (fun _ _ => False)) :
    Runs Try.prog T0 (.fn fn_ztQ) [.func (.yield y) ⟨[]⟩ ⟨[]⟩, .pointer (some ⟨bx, 0, none⟩)] h (fun _ h' => ∃ d : List Ent, d.Perm l ∧ I d h') (fun _ _ => False) := by
  haveI : HGet h bx _ := ⟨hbx⟩
  haveI : BLt bx h := ⟨hb⟩
  haveI : HGet h m _ := ⟨hm⟩
  haveI : BLt m h := ⟨ml⟩
  refine ztQ_runs ?_
  refine stp ?_
  refine loop0 ztQ_l0_M (fun k hx => ∃ d, TellE l d ∧ k = l.length - d.length ∧ hx.get h.n = .mapIter (some m) c (d.map Ent.t) c ∧ hx.get m = .map (ents l) c ∧ h.n < hx.n ∧ I d hx) ?_ l.length ⟨[], TellE.nil, rfl, HGet.new.eq, by rw [Heap.get_push, if_neg (by omega)]; exact hm, by simp, h0 _ Fr.refl.push⟩
  rintro m h' x3 x6 x7 x8 x9 x10 x11 x12 x13 ⟨d, ht, rfl, gi, gm, hn, hi⟩
  haveI : HGet h' h.n _ := ⟨gi⟩
  haveI : HGet h' m _ := ⟨gm⟩
  haveI : BLt h.n h' := ⟨hn⟩
  haveI : BNe m h.n := ⟨by omega⟩
  refine stp ?_
  refine O.nextMap (l := l) (c := c) (m := m) (seen := d.map Ent.t) ok (fun hend => ?_) (fun e he => ?_)
  · refine stp ?_
    exact ⟨d, ht.all ok.t hend, hi⟩
  · have hel := (List.mem_filter.1 he).1
    have ht2 := ht.next he
    have hlen := tell_len ht2
    rw [List.length_append, List.length_singleton] at hlen
    refine stp ?_
    refine O.how (XOp.entryMap (m := m) (c := c) (l := l) (seen := d.map Ent.t) (x := e) ok hel) ?_
    refine stp ?_
    refine O.yield (hr d e _ (by simpa using hn) (hk d _ _ hi (Fr.refl.set fun _ => rfl)) hel (by omega)) (fun r h3 hr => ?_)
    obtain ⟨rfl, hi3, hf3⟩ := hr
    refine stp ?_
    refine loop0a (l.length - (d.length + 1)) (by omega) ⟨d ++ [e], ht2, by simp, ?_, ?_, ?_, hi3⟩
    · rw [hf3.get _ (by simpa using hn) (fun q => q.1 rfl), Heap.get_set, if_pos rfl, List.map_append]
      rfl
    · rw [hf3.get _ (by simp; omega) (fun q => q.2 rfl), Heap.get_set, if_neg (by omega), gm]
    · have := hf3.n
      simp at this
      omega
end Go.Proofs.Ytmhnddkpiefkhaa.A

namespace Go.Proofs.Ytmhnddkpiefkhaa.A
open Go Go.Vm
set_option maxRecDepth 10000
set_option linter.unusedVariables false
set_option maxHeartbeats 4000000 in
theorem aq_round {h : Heap} {lp p2 : Nat} {n : Int} {v : Value} {L : List Int} {f0 f1 f3 f4 f5 f6 f7 f8 f9 f10 f11 f12 : Value} (hlp : h.get lp = .loop .ready none [f0, f1, .pointer (some ⟨p2, 0, none⟩), f3, f4, f5, f6, f7, f8, f9, f10, f11, f12] [7] zwQ_ra0 zwQ_rb0)
    (h2 : h.get p2 = .cells [v] 0) (ho : Own h 1 v (ncells L) L.length) (hL : L.length < 100000) (hv : ∀ i, ownedBy v i → i ≠ lp ∧ i ≠ p2) (ll : lp < h.n) (m2 : p2 < h.n) (n2 : p2 ≠ lp) :
    Runs Try.prog T0 (.yield lp) [.int .i64 n] h (fun r g => r = .bool true ∧ g.get lp = .loop .ready none [f0, f1, .pointer (some ⟨p2, 0, none⟩), f3, f4, f5, f6, f7, f8, f9, f10, f11, f12] [7] zwQ_ra0 zwQ_rb0 ∧
      (∃ v', g.get p2 = .cells [v'] 0 ∧ Own g 1 v' (ncells (L ++ [n])) (L ++ [n]).length ∧ (∀ i, ownedBy v' i → ownedBy v i ∨ h.n ≤ i)) ∧ Fr (fun i => i = lp ∨ i = p2 ∨ ownedBy v i) h g) (fun _ _ => False) := by
  haveI : HGet h lp _ := ⟨hlp⟩
  haveI : HGet h p2 _ := ⟨h2⟩
  haveI : BLt lp h := ⟨ll⟩
  haveI : BLt p2 h := ⟨m2⟩
  haveI : BNe p2 lp := ⟨n2⟩
  haveI : BNe lp p2 := ⟨fun e => n2 e.symm⟩
  refine Runs.round hlp put_one rfl zwQ_na0 zwQ_nb0 zwQ_ca0 zwQ_cb0 ?_
  refine stp ?_
  refine A.go ?_
  refine stp ?_
  have hL1 : (L ++ [n]).length = L.length + 1 := by simp
  refine O.append ((ho.keep (Fr.refl.set (S := fun i => i = lp) fun _ => rfl) fun b hb e => (hv b hb).1 e).keep (S := fun _ => False) Fr.refl.push fun _ _ => id) one_int rfl rfl (by omega) (by omega) (by omega) (fun v6 h6 ho6 hf6 hn6 => ?_)
  have q6 := hf6.n
  simp only [Heap.n_set, Heap.n_push] at q6 hn6
  haveI := hf6.keep (b := lp) inferInstance (by simp; omega) (fun e => (hv lp e).1 rfl)
  haveI := hf6.keep (b := p2) (o := .cells [v] 0) inferInstance (by simp; omega) (fun e => (hv p2 e).2 rfl)
  haveI : BLt lp h6 := ⟨by omega⟩
  haveI : BLt p2 h6 := ⟨by omega⟩
  have F6 : Fr (fun i => i = lp ∨ ownedBy v i) h h6 := ((Fr.refl.set (S := fun i => i = lp ∨ ownedBy v i) fun _ => .inl rfl).push).trans' (hf6.mono fun _ _ e => .inr e)
  obtain ⟨a6, c6, rfl, _, _⟩ := id ho6.rd
  refine stp ?_
  refine A.on ?_
  have fS : ∀ {A B : AObj}, Fr (fun i => i = p2 ∨ i = lp) h6 ((h6.set p2 A).set lp B) := fun {A B} => (Fr.refl.set fun _ => .inl rfl).set fun _ => .inr rfl
  refine ⟨rfl, by rw [Heap.get_set, if_pos rfl], ⟨_, by rw [Heap.get_set, if_neg n2, Heap.get_set, if_pos rfl], ?_, fun i hi => ?_⟩, (F6.mono fun _ _ e => e.elim .inl fun e => .inr (.inr e)).trans' (fS.mono fun _ _ e => e.elim (fun e => .inr (.inl e)) .inl)⟩
  · rw [ncells_append, hL1]
    exact ho6.keep fS fun b hb e => by
      rcases hn6 b hb with h7 | h7
      · have := hv b h7; omega
      · omega
  · rcases hn6 i hi with h7 | h7
    · exact .inl h7
    · exact .inr (by omega)
noncomputable abbrev qrec (bx p2 : Nat) : AObj := .loop .ready none [.slice none 0 0, .func (.func fn_ztQ) ⟨[]⟩ ⟨[.pointer (some ⟨bx, 0, none⟩)]⟩, .pointer (some ⟨p2, 0, none⟩), undef, .slice none 0 0, undef, .func (.func fn_ztQ) ⟨[]⟩ ⟨[.pointer (some ⟨bx, 0, none⟩)]⟩, undef, undef, undef, undef, undef, undef] [7] zwQ_ra0 zwQ_rb0
set_option maxHeartbeats 8000000 in
theorem AppendSeq_ok {h : Heap} {bx m c : Nat} {l : List Ent} (hbx : h.get bx = .cells [.map (some m)] 0) (hb : bx < h.n) (hm : h.get m = .map (ents l) c) (ml : m < h.n) (ok : EntsOK l c) (hlen : l.length < 100000) :
    Runs Try.prog T0 (.fn fn_zwQ) [.slice none 0 0, .func (.func fn_ztQ) ⟨[]⟩ ⟨[.pointer (some ⟨bx, 0, none⟩)]⟩] h
      (fun r h' => ∃ d : List Ent, d.Perm l ∧ Own h' 1 r (ncells (d.map Ent.k)) (d.map Ent.k).length ∧ (∀ i, ownedBy r i → h.n ≤ i) ∧ Fr (fun _ => False) h h') (fun _ _ => False) := by
  refine zwQ_runs ?_
  refine stp ?_
  have F0 : Fr (fun _ => False) h (h.push (.cells [.slice none 0 0] 0)) := Fr.refl.push
  have n0 : (h.push (.cells [.slice none 0 0] 0)).n = h.n + 1 := rfl
  have g2 : (h.push (.cells [.slice none 0 0] 0)).get h.n = .cells [.slice none 0 0] 0 := by rw [Heap.get_push, if_pos rfl]
  generalize h.push (.cells [.slice none 0 0] 0) = ha at *
  have FL : Fr (fun _ => False) ha ((ha.push (.defs false)).push (qrec bx h.n)) := Fr.refl.push.push
  have F1 := F0.trans' FL
  have nl : ((ha.push (.defs false)).push (qrec bx h.n)).n = ha.n + 2 := rfl
  have hd : (ha.push (.defs false)).n = ha.n + 1 := rfl
  have gq : ((ha.push (.defs false)).push (qrec bx h.n)).get (ha.n + 1) = qrec bx h.n := HGet.new.eq
  have FQ : Fr (fun i => i = ha.n + 1 ∨ i = h.n) (ha.push (.defs false)) ((ha.push (.defs false)).push (qrec bx h.n)) := Fr.refl.push
  refine range_on (J := fun hx => (∃ (d : List Ent) (v : Value), d.Perm l ∧ hx.get h.n = .cells [v] 0 ∧ Own hx 1 v (ncells (d.map Ent.k)) (d.map Ent.k).length ∧ ∀ i, ownedBy v i → ha.n + 2 < i) ∧ Fr (fun i => i = ha.n + 1 ∨ i = h.n) (ha.push (.defs false)) hx) ?_ (fun hx hJ => ?_)
  · show Runs _ _ _ _ ((ha.push (.defs false)).push (qrec bx h.n)) _ _
    generalize (ha.push (.defs false)).push (qrec bx h.n) = hl at *
    refine Runs.mono (keys1_ok (I := fun d hx => hx.get (ha.n + 1) = qrec bx h.n ∧ (∃ v, hx.get h.n = .cells [v] 0 ∧ Own hx 1 v (ncells (d.map Ent.k)) (d.map Ent.k).length ∧ ∀ i, ownedBy v i → ha.n + 2 < i) ∧ ha.n + 1 < hx.n ∧ Fr (fun i => i = ha.n + 1 ∨ i = h.n) (ha.push (.defs false)) hx) (by rw [F1.get _ hb id]; exact hbx) (F1.lt hb) (by rw [F1.get _ ml id]; exact hm) (F1.lt ml) ok ?_ ?_ ?_) (fun _ h' hh => ?_) (fun _ _ h => h)
    · intro hx hf
      refine ⟨by rw [hf.get _ (by omega) id]; exact gq, ⟨_, ?_, .none, fun i hi => hi.elim⟩, hf.lt (by omega), ?_⟩
      · rw [hf.get _ (by omega) id, FL.get _ (by omega) id]
        exact g2
      · exact FQ.trans' (hf.mono fun _ _ e => e.elim)
    · rintro d hx hx' ⟨i1, ⟨v, i2, i3, i4⟩, i5, i6⟩ hf
      have i7 := i6.n
      exact ⟨by rw [hf.get _ i5 (by omega)]; exact i1, ⟨v, by rw [hf.get _ (by omega) (by omega)]; exact i2, i3.keep hf fun i hi e => by have := i4 i hi; omega, i4⟩, hf.lt i5, i6.trans hf fun i hi e => by omega⟩
    · rintro d e hx hn ⟨i1, ⟨v, i2, i3, i4⟩, i5, i6⟩ he hdl
      have i7 := i6.n
      refine Runs.mono (aq_round (n := e.k) i1 i2 i3 (by simp; omega) (fun i hi => ?_) i5 (by omega) (by omega)) (fun r h' hh => ?_) (fun _ _ h => h)
      · have := i4 i hi
        omega
      · obtain ⟨rfl, j1, ⟨v', j2, j3, j4⟩, j5⟩ := hh
        have j6 : Fr (fun i => i = ha.n + 1 ∨ i = h.n) (ha.push (.defs false)) h' := i6.trans j5 fun i hi e => by
          rcases e with e | e | e
          · exact .inl e
          · exact .inr e
          · have := i4 i e
            omega
        refine ⟨rfl, ⟨j1, ⟨v', j2, by rw [List.map_append]; exact j3, fun i hi => ?_⟩, j5.lt i5, j6⟩, j5.mono fun i hi e => ?_⟩
        · rcases j4 i hi with h7 | h7
          · exact i4 i h7
          · omega
        · rcases e with e | e | e
          · omega
          · omega
          · have := i4 i e
            omega
    · obtain ⟨d, hd2, i1, ⟨v, i2, i3, i4⟩, i5, i6⟩ := hh
      exact ⟨i1, ⟨d, v, hd2, i2, i3, i4⟩, i6⟩
  · obtain ⟨⟨d, v, hperm, q4, ho, hnew⟩, hf⟩ := hJ
    have gdf : hx.get ha.n = .defs false := by rw [hf.get _ (by omega) (by omega)]; exact HGet.new.eq
    have FD : Fr (fun i => i = ha.n + 1 ∨ i = h.n) ha hx := Fr.trans' (Fr.refl.push (o := .defs false)) hf
    have hfx : Fr (fun _ => False) h hx := F0.trans FD fun i hi e => by omega
    have hxn := hf.n
    haveI : HGet hx h.n _ := ⟨q4⟩
    haveI : HGet hx ha.n _ := ⟨gdf⟩
    haveI : BLt h.n hx := ⟨by omega⟩
    haveI : BNe h.n (ha.n + 1) := ⟨by omega⟩
    haveI : BNe ha.n (ha.n + 1) := ⟨by omega⟩
    haveI : BNe ha.n h.n := ⟨by omega⟩
    haveI : BNe h.n ha.n := ⟨by omega⟩
    obtain ⟨a3, c3, rfl, _, _⟩ := id ho.rd
    refine stp ?_
    refine B.retC ?_
    have fS : ∀ {A B C : AObj}, Fr (fun i => i = ha.n + 1 ∨ i = ha.n) hx (((hx.set (ha.n + 1) A).set (ha.n + 1) B).set ha.n C) := fun {A B C} => ((Fr.refl.set fun _ => .inl rfl).set fun _ => .inl rfl).set fun _ => .inr rfl
    exact ⟨d, hperm, ho.keep fS fun b hb e => by have := hnew b hb; omega, fun i hi => by have := hnew i hi; omega, hfx.trans fS fun i hi e => by omega⟩
theorem Collect_ok {h : Heap} {bx m c : Nat} {l : List Ent} (hbx : h.get bx = .cells [.map (some m)] 0) (hb : bx < h.n) (hm : h.get m = .map (ents l) c) (ml : m < h.n) (ok : EntsOK l c) (hlen : l.length < 100000) :
    Runs Try.prog T0 (.fn fn_zzQ) [.func (.func fn_ztQ) ⟨[]⟩ ⟨[.pointer (some ⟨bx, 0, none⟩)]⟩] h
      (fun r h' => ∃ d : List Ent, d.Perm l ∧ Own h' 1 r (ncells (d.map Ent.k)) (d.map Ent.k).length ∧ (∀ i, ownedBy r i → h.n ≤ i) ∧ Fr (fun _ => False) h h') (fun _ _ => False) := by
  refine zzQ_runs ?_
  refine stp ?_
  refine O.call' (AppendSeq_ok hbx hb hm ml ok hlen) (fun r h1 hr => ?_)
  refine stp ?_
  exact hr
end Go.Proofs.Ytmhnddkpiefkhaa.A

namespace Go.Proofs.Ytmhnddkpiefkhaa.A
open Go Go.Vm
set_option maxRecDepth 10000
set_option linter.unusedVariables false
theorem nget {l : List Int} {j : List Value} {i : Nat} (hi : i < l.length) : CGet (ncells l ++ j) i (.int .i64 (at' l i)) := by
  refine ⟨?_, by rw [List.length_append, ncells_len]; omega⟩
  induction l generalizing i with
  | nil => simp at hi
  | cons a l ih =>
    cases i with
    | zero => rfl
    | succ i => exact ih (by simpa using hi)
theorem nover {l : List Int} {j : List Value} {i : Nat} {x : Int} (hi : i < l.length) : Over (ncells l ++ j) i [.int .i64 x] (ncells (l.set i x) ++ j) := by
  refine ⟨by rw [List.length_append, ncells_len]; simp; omega, ?_⟩
  induction l generalizing i with
  | nil => simp at hi
  | cons a l ih =>
    cases i with
    | zero => show Value.int .i64 x :: over (ncells l ++ j) 0 [] = _; rw [over_nil]; rfl
    | succ i => show Value.int .i64 a :: over (ncells l ++ j) i [.int .i64 x] = _; rw [ih (by simpa using hi)]; rfl
def HSt (p : Nat) (S : Nat → Prop) (hb hx : Heap) (l : List Int) : Prop :=
  p < hx.n ∧ (∃ v, hx.get p = .cells [v] 0 ∧ Own hx 1 v (ncells l) l.length ∧ ∀ i, ownedBy v i → S i ∧ i ≠ p) ∧ S p ∧ l.length < 1000000 ∧ Fr S hb hx
abbrev ltI (a b : Int) : Bool := decide (a < b)
theorem ltI_ord : Ord ltI := ⟨fun a b h => by simp at h ⊢; omega, fun a b c h1 h2 => by simp at h1 h2 ⊢; omega⟩
set_option maxHeartbeats 1000000 in
theorem heights_heap {p : Nat} {S : Nat → Prop} {hb : Heap} : HeapI ltI 107 (.pointer (some ⟨p, 0, none⟩)) (HSt p S hb) where
  bd := fun h => h.2.2.2.1
  len := fun {h l} hs => by
    obtain ⟨hp, ⟨v, hg, ho, hv⟩, h1, h2, h3⟩ := id hs
    haveI : HGet h p _ := ⟨hg⟩
    obtain ⟨a, c, rfl, _, _⟩ := id ho.rd
    refine ⟨fn_zqbQ, _, methodOf_val (by kernel_rfl) (by kernel_rfl : Try.prog.underlying 107 = some (.pointer 101)) (by kernel_rfl) (Cell.eq (h := h) (b := p) (off := 0)), ?_⟩
    refine zqbQ_runs ?_
    refine stp ?_
    exact ⟨rfl, hs⟩
  less := fun {h l i k} hs hi hk => by
    obtain ⟨hp, ⟨v, hg, ho, hv⟩, h1, h2, h3⟩ := id hs
    haveI : HGet h p _ := ⟨hg⟩
    refine ⟨fn_zrbQ, _, methodOf_val (by kernel_rfl) (by kernel_rfl : Try.prog.underlying 107 = some (.pointer 101)) (by kernel_rfl) (Cell.eq (h := h) (b := p) (off := 0)), ?_⟩
    generalize hn : l.length = n at *
    generalize hc : ncells l = cc at *
    cases ho with
    | none => omega
    | lit _ _ => omega
    | grown hq hn0 hle hl hl2 hgq =>
      rename_i q kk cap j
      subst hn hc
      haveI : HGet h q _ := ⟨hgq⟩
      haveI := nget (j := j) hi
      haveI := nget (j := j) hk
      refine zrbQ_runs ?_
      refine stp ?_
      exact ⟨rfl, hs⟩
  swap := fun {h l i k} hs hi hk => by
    obtain ⟨hp, ⟨v, hg, ho, hv⟩, h1, h2, h3⟩ := id hs
    haveI : HGet h p _ := ⟨hg⟩
    refine ⟨fn_ztbQ, _, methodOf_val (by kernel_rfl) (by kernel_rfl : Try.prog.underlying 107 = some (.pointer 101)) (by kernel_rfl) (Cell.eq (h := h) (b := p) (off := 0)), ?_⟩
    generalize hn : l.length = n at *
    generalize hc : ncells l = cc at *
    cases ho with
    | none => omega
    | lit _ _ => omega
    | grown hq hn0 hle hl hl2 hgq =>
      rename_i q kk cap j
      subst hn hc
      haveI : HGet h q _ := ⟨hgq⟩
      haveI := nget (j := j) hi
      haveI := nget (j := j) hk
      haveI : Over (ncells l ++ j) i [.int .i64 (at' l k)] (ncells (l.set i (at' l k)) ++ j) := nover hi
      haveI : Over (ncells (l.set i (at' l k)) ++ j) k [.int .i64 (at' l i)] (ncells (swp l i k) ++ j) := nover (by simpa using hk)
      refine ztbQ_runs ?_
      refine stp ?_
      refine D.one0 StabL.ok ?_
      refine stp ?_
      obtain ⟨hS, hqp⟩ := hv q rfl
      refine ⟨by simpa using hp, ⟨_, by rw [Heap.get_set, if_neg (fun e => hqp e.symm)]; exact hg, ?_, hv⟩, h1, by rw [swp_len]; exact h2, h3.set fun _ => hS⟩
      rw [swp_len]
      refine Own.grown (j := j) (by simpa using hq) hn0 hle (by rw [ncells_len, swp_len]; simp) ?_ (by rw [Heap.get_set, if_pos rfl])
      rw [List.length_append, ncells_len] at hl2
      rw [List.length_append, ncells_len, swp_len]
      exact hl2
theorem Pop_ok {p : Nat} {S : Nat → Prop} {hb h : Heap} {l : List Int} (hs : HSt p S hb h l) (hl : 0 < l.length) :
    MRuns Try.prog T0 107 (.pointer (some ⟨p, 0, none⟩)) "Pop" [] h (fun r h' => r = .iface 3 (.int .i64 (at' l (l.length - 1))) ∧ HSt p S hb h' (l.take (l.length - 1))) := by
  obtain ⟨hp, ⟨v, hg, ho, hv⟩, h1, h2, h3⟩ := id hs
  obtain ⟨k, hk⟩ : ∃ k, l.length - 1 = k := ⟨_, rfl⟩
  rw [hk]
  haveI : HGet h p _ := ⟨hg⟩
  refine ⟨fn_zsbQ, _, methodOf_ptr (by kernel_rfl) (by kernel_rfl : Try.prog.underlying 107 = some (.pointer 101)), ?_⟩
  generalize hn : l.length = n at *
  generalize hc : ncells l = cc at *
  have ho0 := ho
  have e1 : (n : Int) - 1 = (k : Int) := by omega
  cases ho with
  | none => omega
  | lit _ _ => omega
  | grown hq hn0 hle hl3 hl2 hgq =>
    rename_i q kk cap j
    subst hn hc
    haveI : HGet h q _ := ⟨hgq⟩
    haveI := nget (l := l) (j := j) (i := k) (by omega)
    haveI : IdxOff 0 ((l.length : Int) - 1) 1 k := ⟨by omega⟩
    refine zsbQ_runs ?_
    refine stp ?_
    refine O.cutOwn k ho0 (by omega) ?_ (fun v' ho' hb' => ?_)
    · rw [e1]
      intro m hm
      exact bnd_at' (by omega)
    have hnq : p ≠ q := fun e => (hv q rfl).2 e.symm
    obtain ⟨a3, c3, rfl, _, _⟩ := id ho'.rd
    refine stp ?_
    refine ⟨rfl, by simpa using hp, ⟨_, by rw [Heap.get_set, if_pos rfl], ?_, fun i hi => hv i ((hb' i).1 hi)⟩, h1, by simp; omega, h3.set fun _ => h1⟩
    have ek : ncells (l.take k) = (ncells l).take (k * 1) := by rw [Nat.mul_one]; simp [ncells, List.map_take]
    rw [ek, List.length_take, Nat.min_eq_left (by omega)]
    exact ho'.keep (Fr.refl.set (S := fun i => i = p) fun _ => rfl) fun b hb e => (hv b ((hb' b).1 hb)).2 e
end Go.Proofs.Ytmhnddkpiefkhaa.A

namespace Go.Proofs.Ytmhnddkpiefkhaa.A
open Go Go.Vm
set_option maxRecDepth 10000
set_option linter.unusedVariables false
theorem HSt.rebase {p : Nat} {S : Nat → Prop} {hb hx : Heap} {l : List Int} (h : HSt p S hb hx l) : HSt p S hx hx l := ⟨h.1, h.2.1, h.2.2.1, h.2.2.2.1, Fr.refl⟩
theorem HSt.keep {p : Nat} {S S' : Nat → Prop} {hb hx hy : Heap} {l : List Int} (h : HSt p S hb hx l) (hf : Fr S' hx hy) (hs : ∀ i, S i → ¬ S' i) : HSt p S hy hy l := by
  obtain ⟨h1, ⟨v, h2, h3, h4⟩, h5, h6, h7⟩ := h
  exact ⟨hf.lt h1, ⟨v, by rw [hf.get _ h1 (hs _ h5)]; exact h2, h3.keep hf fun b hb => hs b (h4 b hb).1, h4⟩, h5, h6, Fr.refl⟩
set_option maxHeartbeats 8000000 in
theorem rising_ok {h : Heap} {p m c : Nat} {room : Int} {l : List Ent} (hp : h.get p = .cells [.int .i64 room, .map (some m)] 0) (pl : p < h.n) (hm : h.get m = .map (ents l) c) (ml : m < h.n) (ok : EntsOK l c) (hlen : l.length < 100000) :
    Runs Try.prog T0 (.fn fn_zobQ) [.pointer (some ⟨p, 0, none⟩)] h
      (fun r h' => ∃ R : List Int, R.Perm (l.map Ent.k) ∧ R.Pairwise (· ≤ ·) ∧ Own h' 1 r (ncells R) R.length ∧ (∀ i, ownedBy r i → h.n ≤ i) ∧ Fr (fun _ => False) h h') (fun _ _ => False) := by
  haveI : HGet h p _ := ⟨hp⟩
  haveI : BLt p h := ⟨pl⟩
  refine zobQ_runs ?_
  refine stp ?_
  refine O.call' Keys_ok (fun r h1 hr => ?_)
  obtain ⟨rfl, n1, g1, f1⟩ := hr
  refine stp ?_
  refine O.call' (Collect_ok (l := l) g1 (by omega) (by rw [f1.get _ ml id]; exact hm) (by omega) ok hlen) (fun r h2 hr => ?_)
  obtain ⟨d, hd, ho, hnew, f2⟩ := hr
  have F2 := f1.trans' f2
  have n2 := f2.n
  obtain ⟨a0, c0, rfl, _, _⟩ := id ho.rd
  generalize hv0 : Value.slice a0 (d.map Ent.k).length c0 = v0 at *
  haveI : CellsOf v0 [v0] := by rw [← hv0]; infer_instance
  haveI : One1 v0 := by rw [← hv0]; infer_instance
  refine stp ?_
  have hlt0 : ∀ i, ownedBy v0 i → i < h2.n := fun i hi => ho.lt hi
  have HS0 : HSt h2.n (fun i => i = h2.n ∨ ownedBy v0 i) (h2.push (.cells [v0] 0)) (h2.push (.cells [v0] 0)) (d.map Ent.k) :=
    ⟨by simp, ⟨v0, by rw [Heap.get_push, if_pos rfl], ho.keep (Fr.refl.push (S := fun _ => False)) fun _ _ => id, fun i hi => ⟨.inr hi, by have := hlt0 i hi; omega⟩⟩, .inl rfl, by have := hd.length_eq; simp; omega, Fr.refl⟩
  have F3 : Fr (fun _ => False) h (h2.push (.cells [v0] 0)) := F2.trans' Fr.refl.push
  have n3 : (h2.push (.cells [v0] 0)).n = h2.n + 1 := rfl
  generalize h2.push (.cells [v0] 0) = h3 at *
  have hSn : ∀ i, (i = h2.n ∨ ownedBy v0 i) → i < h3.n ∧ h.n ≤ i := fun i hi => by
    rcases hi with rfl | hi
    · omega
    · have := hlt0 i hi
      have := hnew i hi
      omega
  generalize hS : (fun i => i = h2.n ∨ ownedBy v0 i) = S at *
  have hSn : ∀ i, S i → i < h3.n ∧ h.n ≤ i := fun i hi => hSn i (by rw [← hS] at hi; exact hi)
  have hK : (d.map Ent.k).Perm (l.map Ent.k) := hd.map _
  have hKl : (d.map Ent.k).length < 100000 := by have := hd.length_eq; simp; omega
  generalize d.map Ent.k = K at *
  refine O.call' (init_ok heights_heap HS0) (fun r h4 HS4 => ?_)
  obtain ⟨i1, i2, i3⟩ := init_spec ltI_ord K
  generalize initF ltI K = K1 at *
  have f4 := HS4.2.2.2.2
  have n4 := f4.n
  have F4 : Fr (fun _ => False) h h4 := F3.trans f4 fun i hi e => by have := hSn i e; omega
  refine stp ?_
  refine loop1 zobQ_l0_M 2 (fun m v2 hx => ∃ (l' R : List Int), HSt h2.n S hx hx l' ∧ Own hx 1 v2 (ncells R) R.length ∧ (∀ i, ownedBy v2 i → ¬ S i ∧ h.n ≤ i) ∧ m = l'.length ∧ HeapP ltI 0 l'.length l' ∧ (R ++ l').Perm K ∧ R.Pairwise (· ≤ ·) ∧ (∀ a ∈ R, ∀ b ∈ l', a ≤ b) ∧ Fr (fun _ => False) h hx ∧ h3.n ≤ hx.n) ?_ K1.length
    ⟨K1, [], HS4.rebase, .none, fun i hi => hi.elim, rfl, by rw [i1]; exact i3, by simpa using i2, List.Pairwise.nil, by simp, F4, n4⟩
  rintro m v2 h' x4 x5 x14 x15 x16 x17 x18 x19 x20 x21 x22 x23 x24 x25 x26 x27 ⟨l', R, hs, hoR, hR, rfl, hheap, hperm, hsort, hle, hF, hn⟩
  obtain ⟨hp3, ⟨v, hg3, hov, hv⟩, hSp, hlb, _⟩ := id hs
  haveI : HGet h' h2.n _ := ⟨hg3⟩
  obtain ⟨av, cv, rfl, _, _⟩ := id hov.rd
  refine stp ?_
  refine O.call' (R := fun r h' => r = .int .i64 (l'.length : Nat) ∧ h' = _) (zqbQ_runs (by refine stp ?_; exact ⟨rfl, rfl⟩)) (fun r h5 hr => ?_)
  obtain ⟨rfl, rfl⟩ := hr
  refine stp ?_
  refine C.if (fun hpos => ?_) (fun hzero => ?_)
  · have hpos' : 0 < l'.length := by omega
    obtain ⟨o1, o2, o3, o4⟩ := out_spec ltI_ord hheap hpos'
    have hmin : ∀ b ∈ l', at' l' 0 ≤ b := fun b hb => by
      exact Int.not_lt.1 (of_decide_eq_false (root_le ltI_ord hheap hb))
    have hRl : R.length + l'.length = K.length := by have := hperm.length_eq; simpa using this
    refine stp ?_
    refine O.call' (pop_ok heights_heap hs hpos' (fun hx hsx => Pop_ok hsx (by rw [o1]; exact hpos'))) (fun r h6 hr => ?_)
    obtain ⟨rfl, HS6⟩ := hr
    rw [o1] at HS6
    rw [o1, o2]
    have f6 := HS6.2.2.2.2
    have n6 := f6.n
    have hoR6 := hoR.keep f6 fun b hb => (hR b hb).1
    have F6 : Fr (fun _ => False) h h6 := hF.trans f6 fun i hi e => by have := hSn i e; omega
    refine stp ?_
    refine O.append (hoR6.keep (S := fun _ => False) Fr.refl.push fun _ _ => id) one_int rfl rfl (by omega) (by omega) (by omega) (fun v7 h7 ho7 f7 hn7 => ?_)
    have n7 := f7.n
    simp only [Heap.n_push] at n7 hn7
    have f67 : Fr (ownedBy _) h6 h7 := (Fr.refl.push).trans' f7
    have hlb7 : at' l' 0 ∈ l' := at_mem hpos'
    refine stp ?_
    have hmem : ∀ b ∈ (outF ltI l').take (l'.length - 1), b ∈ l' := fun b hb => (o3.mem_iff).1 (List.mem_cons_of_mem _ hb)
    have hlen2 : ((outF ltI l').take (l'.length - 1)).length = l'.length - 1 := by rw [List.length_take, o1]; omega
    refine loop1a 2 (l'.length - 1) (by omega) ⟨(outF ltI l').take (l'.length - 1), R ++ [at' l' 0], HS6.rebase.keep f67 fun i hi e => (hR i e).1 hi, ?_, fun i hi => ?_, hlen2.symm, ?_, ?_, ?_, fun a ha b hb => ?_, F6.trans f67 fun i hi e => by have := (hR i e).2; omega, by omega⟩
    · rw [ncells_append, List.length_append]
      exact ho7
    · rcases hn7 i hi with h8 | h8
      · exact hR i h8
      · exact ⟨fun e => by have := hSn i e; omega, by have := F6.n; omega⟩
    · rw [hlen2]; exact o4
    · rw [List.append_assoc]
      exact (List.Perm.append_left R o3).trans hperm
    · rw [List.pairwise_append]
      exact ⟨hsort, List.pairwise_singleton _ _, fun a ha b hb => by
        simp only [List.mem_singleton] at hb
        subst hb
        exact hle a ha _ hlb7⟩
    · rcases List.mem_append.1 ha with ha | ha
      · exact hle a ha b (hmem b hb)
      · simp only [List.mem_singleton] at ha
        subst ha
        exact hmin b (hmem b hb)
  · refine stp ?_
    have hnil : l' = [] := List.length_eq_zero_iff.1 (by omega)
    subst hnil
    rw [List.append_nil] at hperm
    exact ⟨R, hperm.trans hK, hsort, hoR, fun i hi => (hR i hi).2, hF⟩
end Go.Proofs.Ytmhnddkpiefkhaa.A

namespace Go.Proofs.Ytmhnddkpiefkhaa.A
open Go Go.Vm
set_option maxRecDepth 10000
set_option linter.unusedVariables false
theorem Values_ok {h : Heap} {m : Nat} : Runs Try.prog T0 (.fn fn_zuQ) [.map (some m)] h (fun r h' => r = .func (.func fn_zvQ) ⟨[]⟩ ⟨[.pointer (some ⟨h.n, 0, none⟩)]⟩ ∧ h'.n = h.n + 1 ∧ h'.get h.n = .cells [.map (some m)] 0 ∧ Fr (fun _ => False) h h') (fun _ _ => False) := by
  refine zuQ_runs ?_
  refine stp ?_
  exact ⟨rfl, rfl, HGet.new.eq, Fr.refl.push⟩
set_option maxHeartbeats 4000000 in
theorem vals1_ok {h : Heap} {bx m c y : Nat} {l : List Ent} {I : List Ent → Heap → Prop} (hbx : h.get bx = .cells [.map (some m)] 0) (hb : bx < h.n) (hm : h.get m = .map (ents l) c) (ml : m < h.n) (ok : EntsOK l c)
    (h0 : ∀ hx, Fr (fun _ => False) h hx → I [] hx)
    (hk : ∀ d hx hx', I d hx → Fr (fun i => i = h.n) hx hx' → I d hx')
    (hr : ∀ d e hx, h.n < hx.n → I d hx → e ∈ l → d.length < l.length → Runs Try.prog T0 (.yield y) [e.v] hx (fun r h' => r = .bool true ∧ I (d ++ [e]) h' ∧ Fr (fun i => i ≠ h.n ∧ i ≠ m) hx h') (fun _ _ => False)) :
    Runs Try.prog T0 (.fn fn_zvQ) [.func (.yield y) ⟨[]⟩ ⟨[]⟩, .pointer (some ⟨bx, 0, none⟩)] h (fun _ h' => ∃ d : List Ent, d.Perm l ∧ I d h') (fun _ _ => False) := by
  haveI : HGet h bx _ := ⟨hbx⟩
  haveI : BLt bx h := ⟨hb⟩
  haveI : HGet h m _ := ⟨hm⟩
  haveI : BLt m h := ⟨ml⟩
  refine zvQ_runs ?_
  refine stp ?_
  refine loop0 zvQ_l0_M (fun k hx => ∃ d, TellE l d ∧ k = l.length - d.length ∧ hx.get h.n = .mapIter (some m) c (d.map Ent.t) c ∧ hx.get m = .map (ents l) c ∧ h.n < hx.n ∧ I d hx) ?_ l.length ⟨[], TellE.nil, rfl, HGet.new.eq, by rw [Heap.get_push, if_neg (by omega)]; exact hm, by simp, h0 _ Fr.refl.push⟩
  rintro m h' x4 x7 x8 x9 x10 x11 x12 x13 x14 ⟨d, ht, rfl, gi, gm, hn, hi⟩
  haveI : HGet h' h.n _ := ⟨gi⟩
  haveI : HGet h' m _ := ⟨gm⟩
  haveI : BLt h.n h' := ⟨hn⟩
  haveI : BNe m h.n := ⟨by omega⟩
  refine stp ?_
  refine O.nextMap (l := l) (c := c) (m := m) (seen := d.map Ent.t) ok (fun hend => ?_) (fun e he => ?_)
  · refine stp ?_
    exact ⟨d, ht.all ok.t hend, hi⟩
  · have hel := (List.mem_filter.1 he).1
    have ht2 := ht.next he
    have hlen := tell_len ht2
    rw [List.length_append, List.length_singleton] at hlen
    refine stp ?_
    refine O.how (XOp.entryMap (m := m) (c := c) (l := l) (seen := d.map Ent.t) (x := e) ok hel) ?_
    refine stp ?_
    refine O.yield (hr d e _ (by simpa using hn) (hk d _ _ hi (Fr.refl.set fun _ => rfl)) hel (by omega)) (fun r h3 hr => ?_)
    obtain ⟨rfl, hi3, hf3⟩ := hr
    refine stp ?_
    refine loop0a (l.length - (d.length + 1)) (by omega) ⟨d ++ [e], ht2, by simp, ?_, ?_, ?_, hi3⟩
    · rw [hf3.get _ (by simpa using hn) (fun q => q.1 rfl), Heap.get_set, if_pos rfl, List.map_append]
      rfl
    · rw [hf3.get _ (by simp; omega) (fun q => q.2 rfl), Heap.get_set, if_neg (by omega), gm]
    · have := hf3.n
      simp at this
      omega
structure SE where
  b : Nat
  t : Nat
  x : Bk
  sv : Value
  sl : Value
  v : Bool
  p : Bool
abbrev SE.k (e : SE) : Int := e.x.h.height
def SE.ent (e : SE) : Ent := ⟨e.x.h.height, .pointer (some ⟨e.b, 0, none⟩), e.t⟩
abbrev SE.cells (e : SE) : List Value := .string ⟨⟨e.x.h.chain⟩⟩ :: .int .i64 e.x.h.height :: .int .i64 e.x.h.time :: (bcells e.x.h.prev ++ (bcells e.x.h.vals ++ (bcells e.x.h.next ++ (bcells e.x.h.app ++ (.int .i64 e.x.c.height :: (bcells e.x.c.hash ++ [e.sv, e.sl, .bool e.v, .bool e.p]))))))
structure SE.At (h : Heap) (e : SE) : Prop where
  hd : e.x.h.ok
  hash : e.x.c.hash.length = 32
  get : h.get e.b = .cells e.cells 0
  lt : e.b < h.n
  sv : Own h 2 e.sv (tcells e.x.c.votes) e.x.c.votes.length
  sl : Own h 5 e.sl (vcells e.x.vals) e.x.vals.length
  lv : e.x.c.votes.length ≤ 70
  ll : e.x.vals.length ≤ 70
def SE.mine (e : SE) (i : Nat) : Prop := i = e.b ∨ ownedBy e.sv i ∨ ownedBy e.sl i
theorem SE.At.keep {S : Nat → Prop} {h h' : Heap} {e : SE} (he : e.At h) (hf : Fr S h h') (hs : ∀ i, e.mine i → ¬ S i) : e.At h' :=
  ⟨he.hd, he.hash, by rw [hf.get _ he.lt (hs _ (.inl rfl))]; exact he.get, hf.lt he.lt, he.sv.keep hf fun i hi => hs i (.inr (.inl hi)), he.sl.keep hf fun i hi => hs i (.inr (.inr hi)), he.lv, he.ll⟩
theorem SE.At.mlt {h : Heap} {e : SE} (he : e.At h) {i : Nat} (hi : e.mine i) : i < h.n := by
  rcases hi with rfl | hi | hi
  · exact he.lt
  · exact he.sv.lt hi
  · exact he.sl.lt hi
def pcells (l : List Nat) : List Value := l.map fun b => .pointer (some ⟨b, 0, none⟩)
theorem pcells_len (l : List Nat) : (pcells l).length = l.length := by simp [pcells]
theorem pcells_append (l m : List Nat) : pcells (l ++ m) = pcells l ++ pcells m := by simp [pcells]
theorem one_ptr {h : Heap} {b es : Nat} : newCells (h.push (.cells [.pointer (some ⟨b, 0, none⟩)] es)) 1 [.pointer none] false (.slice (some ⟨h.n, 0, none⟩) 1 1) = some (1, [.pointer (some ⟨b, 0, none⟩)]) :=
  (Rd.mk (size := 1) (n := 1) (cap := 1) (sp := none) (o := 0) (b := h.n) (c := [.pointer (some ⟨b, 0, none⟩)]) (by simp) (by rw [cellsAt_of (c := [.pointer (some ⟨b, 0, none⟩)]) (by rw [Heap.get_push, if_pos rfl]; rfl) (by simp)]; rfl)).new _
set_option maxHeartbeats 4000000 in
theorem lo_round {h : Heap} {lp p2 : Nat} {e : SE} {v : Value} {L : List Nat} {f0 f1 f3 f4 f5 f6 f7 f8 f9 f10 f11 f12 f13 f14 f15 f16 f17 f18 f19 : Value} (he : e.At h) (hlp : h.get lp = .loop .ready none [f0, f1, .pointer (some ⟨p2, 0, none⟩), f3, f4, f5, f6, f7, f8, f9, f10, f11, f12, f13, f14, f15, f16, f17, f18, f19] [9] zmbQ_ra0 zmbQ_rb0)
    (h2 : h.get p2 = .cells [v] 0) (ho : Own h 1 v (pcells L) L.length) (hL : L.length < 100000) (hv : ∀ i, ownedBy v i → i ≠ lp ∧ i ≠ p2) (ll : lp < h.n) (m2 : p2 < h.n) (n2 : p2 ≠ lp) (nb : e.b ≠ lp) :
    Runs Try.prog T0 (.yield lp) [.pointer (some ⟨e.b, 0, none⟩)] h (fun r g => r = .bool true ∧ g.get lp = .loop .ready none [f0, f1, .pointer (some ⟨p2, 0, none⟩), f3, f4, f5, f6, f7, f8, f9, f10, f11, f12, f13, f14, f15, f16, f17, f18, f19] [9] zmbQ_ra0 zmbQ_rb0 ∧
      (∃ v', g.get p2 = .cells [v'] 0 ∧ Own g 1 v' (pcells (if e.p then L else L ++ [e.b])) (if e.p then L else L ++ [e.b]).length ∧ (∀ i, ownedBy v' i → ownedBy v i ∨ h.n ≤ i)) ∧ Fr (fun i => i = lp ∨ i = p2 ∨ ownedBy v i) h g) (fun _ _ => False) := by
  haveI := l32 he.hd.prev
  haveI := l32 he.hd.vals
  haveI := l32 he.hd.next
  haveI := l32 he.hd.app
  haveI := l32 he.hash
  haveI : HGet h lp _ := ⟨hlp⟩
  haveI : HGet h p2 _ := ⟨h2⟩
  haveI : HGet h e.b _ := ⟨he.get⟩
  haveI : BLt e.b h := ⟨he.lt⟩
  haveI : BLt lp h := ⟨ll⟩
  haveI : BLt p2 h := ⟨m2⟩
  haveI : BNe p2 lp := ⟨n2⟩
  haveI : BNe e.b lp := ⟨nb⟩
  haveI : BNe lp p2 := ⟨fun e => n2 e.symm⟩
  refine Runs.round hlp put_one rfl zmbQ_na0 zmbQ_nb0 zmbQ_ca0 zmbQ_cb0 ?_
  refine stp ?_
  refine A.go ?_
  refine stp ?_
  refine C.ifB (fun e1 => ?_) (fun e1 => ?_)
  · refine stp ?_
    have e1' : e.p = false := by simpa using e1
    rw [e1']
    have hL1 : (L ++ [e.b]).length = L.length + 1 := by simp
    refine O.append ((ho.keep (Fr.refl.set (S := fun i => i = lp) fun _ => rfl) fun b hb e => (hv b hb).1 e).keep (S := fun _ => False) Fr.refl.push fun _ _ => id) one_ptr rfl rfl (by omega) (by omega) (by omega) (fun v6 h6 ho6 hf6 hn6 => ?_)
    have q6 := hf6.n
    simp only [Heap.n_set, Heap.n_push] at q6 hn6
    haveI := hf6.keep (b := lp) inferInstance (by simp; omega) (fun e => (hv lp e).1 rfl)
    haveI := hf6.keep (b := p2) (o := .cells [v] 0) inferInstance (by simp; omega) (fun e => (hv p2 e).2 rfl)
    haveI : BLt lp h6 := ⟨by omega⟩
    haveI : BLt p2 h6 := ⟨by omega⟩
    have F6 : Fr (fun i => i = lp ∨ ownedBy v i) h h6 := ((Fr.refl.set (S := fun i => i = lp ∨ ownedBy v i) fun _ => .inl rfl).push).trans' (hf6.mono fun _ _ e => .inr e)
    obtain ⟨a6, c6, rfl, _, _⟩ := id ho6.rd
    refine stp ?_
    refine A.on ?_
    have fS : ∀ {A B : AObj}, Fr (fun i => i = p2 ∨ i = lp) h6 ((h6.set p2 A).set lp B) := fun {A B} => (Fr.refl.set fun _ => .inl rfl).set fun _ => .inr rfl
    refine ⟨rfl, by rw [Heap.get_set, if_pos rfl], ⟨_, by rw [Heap.get_set, if_neg n2, Heap.get_set, if_pos rfl], ?_, fun i hi => ?_⟩, (F6.mono fun _ _ e => e.elim .inl fun e => .inr (.inr e)).trans' (fS.mono fun _ _ e => e.elim (fun e => .inr (.inl e)) .inl)⟩
    · simp only [Bool.false_eq_true, if_false]
      rw [pcells_append, hL1]
      exact ho6.keep fS fun b hb e => by
        rcases hn6 b hb with h7 | h7
        · have := hv b h7; omega
        · omega
    · rcases hn6 i hi with h7 | h7
      · exact .inl h7
      · exact .inr (by omega)
  · refine stp ?_
    have e1' : e.p = true := by simpa using e1
    rw [e1']
    refine A.on ?_
    have fS : ∀ {B C : AObj}, Fr (fun i => i = lp) h ((h.set lp B).set lp C) := fun {B C} => (Fr.refl.set (S := fun i => i = lp) fun _ => rfl).set fun _ => rfl
    rw [show (if true = true then L else L ++ [e.b]) = L from if_pos rfl]
    exact ⟨rfl, by rw [Heap.get_set, if_pos rfl], ⟨v, by rw [fS.get _ m2 n2]; exact h2, ho.keep fS fun b hb e => (hv b hb).1 e, fun i hi => .inl hi⟩, fS.mono fun _ _ e => .inl e⟩
end Go.Proofs.Ytmhnddkpiefkhaa.A

namespace Go.Proofs.Ytmhnddkpiefkhaa.A
open Go Go.Vm
set_option maxRecDepth 10000
set_option linter.unusedVariables false
structure StAt (h : Heap) (p m c : Nat) (room : Int) (l : List SE) : Prop where
  pl : p < h.n
  ml : m < h.n
  pm : p ≠ m
  gp : h.get p = .cells [.int .i64 room, .map (some m)] 0
  gm : h.get m = .map (ents (l.map SE.ent)) c
  ok : EntsOK (l.map SE.ent) c
  ats : ∀ e ∈ l, e.At h
  sp : ∀ e ∈ l, ∀ i, e.mine i → i ≠ p ∧ i ≠ m
  nd : (l.map SE.b).Nodup
  sv : ∀ e ∈ l, ∀ e' ∈ l, ¬ ownedBy e.sv e'.b ∧ ¬ ownedBy e.sl e'.b
def Mine (p m : Nat) (l : List SE) (i : Nat) : Prop := i = p ∨ i = m ∨ ∃ e ∈ l, e.mine i
theorem StAt.keep {S : Nat → Prop} {h h' : Heap} {p m c : Nat} {room : Int} {l : List SE} (hs : StAt h p m c room l) (hf : Fr S h h') (hn : ∀ i, Mine p m l i → ¬ S i) : StAt h' p m c room l :=
  ⟨hf.lt hs.pl, hf.lt hs.ml, hs.pm, by rw [hf.get _ hs.pl (hn _ (.inl rfl))]; exact hs.gp, by rw [hf.get _ hs.ml (hn _ (.inr (.inl rfl)))]; exact hs.gm, hs.ok,
    fun e he => (hs.ats e he).keep hf fun i hi => hn i (.inr (.inr ⟨e, he, hi⟩)), hs.sp, hs.nd, hs.sv⟩
theorem StAt.mlt {h : Heap} {p m c : Nat} {room : Int} {l : List SE} (hs : StAt h p m c room l) {i : Nat} (hi : Mine p m l i) : i < h.n := by
  rcases hi with rfl | rfl | ⟨e, he, hi⟩
  · exact hs.pl
  · exact hs.ml
  · exact (hs.ats e he).mlt hi
theorem inj_of_nodup {α β : Type} {f : α → β} {l : List α} (h : (l.map f).Nodup) {a b : α} (ha : a ∈ l) (hb : b ∈ l) (e : f a = f b) : a = b := by
  induction l with
  | nil => simp at ha
  | cons x l ih =>
    simp only [List.map_cons, List.nodup_cons] at h
    rcases List.mem_cons.1 ha with h1 | h1 <;> rcases List.mem_cons.1 hb with h2 | h2
    · rw [h1, h2]
    · subst h1; exact absurd (List.mem_map.2 ⟨b, h2, e.symm⟩) h.1
    · subst h2; exact absurd (List.mem_map.2 ⟨a, h1, e⟩) h.1
    · exact ih h.2 h1 h2
theorem perm_back {l D : List SE} {d : List Ent} {c : Nat} (ok : EntsOK (l.map SE.ent) c) (hd : D.map SE.ent = d) (hm : ∀ e ∈ D, e ∈ l) (hp : d.Perm (l.map SE.ent)) : D.Perm l := by
  have ht : (l.map SE.t).Nodup := by have := ok.t; rw [List.map_map] at this; exact this
  have hdn : (D.map SE.t).Nodup := by
    have : (d.map Ent.t).Nodup := ((hp.map Ent.t).nodup_iff).2 ok.t
    rw [← hd, List.map_map] at this
    exact this
  refine perm_of_same (nodup_of_map _ hdn) (nodup_of_map _ ht) fun e => ⟨hm e, fun he => ?_⟩
  have h1 : e.ent ∈ d := hp.mem_iff.2 (List.mem_map.2 ⟨e, he, rfl⟩)
  rw [← hd] at h1
  obtain ⟨e', he', hee⟩ := List.mem_map.1 h1
  have : e' = e := inj_of_nodup ht (hm e' he') he (by have := congrArg Ent.t hee; exact this)
  rwa [this] at he'
noncomputable abbrev lrec (p m bx p2 : Nat) : AObj := .loop .ready none [.pointer (some ⟨p, 0, none⟩), undef, .pointer (some ⟨p2, 0, none⟩), undef, .pointer (some ⟨p, 0, none⟩), .pointer (some ⟨p, 0, none⟩), .pointer (some ⟨p, 1, none⟩), .map (some m), .func (.func fn_zvQ) ⟨[]⟩ ⟨[.pointer (some ⟨bx, 0, none⟩)]⟩, undef, undef, undef, undef, undef, undef, undef, undef, undef, undef, undef] [9] zmbQ_ra0 zmbQ_rb0
def looseL (l : List SE) : List SE := l.filter fun e => !e.p
theorem loose_snoc (D : List SE) (e : SE) : (looseL (D ++ [e])).map SE.b = if e.p then (looseL D).map SE.b else (looseL D).map SE.b ++ [e.b] := by
  unfold looseL
  rw [List.filter_append, List.map_append]
  cases h : e.p <;> simp [h]
set_option maxHeartbeats 8000000 in
theorem loose_ok {h : Heap} {p m c : Nat} {room : Int} {l : List SE} (hs : StAt h p m c room l) (hlen : l.length < 100000) :
    Runs Try.prog T0 (.fn fn_zmbQ) [.pointer (some ⟨p, 0, none⟩)] h
      (fun r h' => ∃ d : List SE, d.Perm (looseL l) ∧ Own h' 1 r (pcells (d.map SE.b)) (d.map SE.b).length ∧ (∀ i, ownedBy r i → h.n ≤ i) ∧ Fr (fun _ => False) h h') (fun _ _ => False) := by
  haveI : HGet h p _ := ⟨hs.gp⟩
  haveI : BLt p h := ⟨hs.pl⟩
  have hml := hs.ml
  have hpl := hs.pl
  refine zmbQ_runs ?_
  refine stp ?_
  have F0 : Fr (fun _ => False) h (h.push (.cells [.slice none 0 0] 0)) := Fr.refl.push
  have n0 : (h.push (.cells [.slice none 0 0] 0)).n = h.n + 1 := rfl
  have g2 : (h.push (.cells [.slice none 0 0] 0)).get h.n = .cells [.slice none 0 0] 0 := by rw [Heap.get_push, if_pos rfl]
  generalize h.push (.cells [.slice none 0 0] 0) = h0 at *
  refine O.call' Values_ok (fun r ha hr => ?_)
  obtain ⟨rfl, na, gx, fa⟩ := hr
  have Fa := F0.trans' fa
  refine stp ?_
  have FL : Fr (fun _ => False) ha ((ha.push (.defs false)).push (lrec p m h0.n h.n)) := Fr.refl.push.push
  have F1 := Fa.trans' FL
  have nl : ((ha.push (.defs false)).push (lrec p m h0.n h.n)).n = ha.n + 2 := rfl
  have hd : (ha.push (.defs false)).n = ha.n + 1 := rfl
  have gq : ((ha.push (.defs false)).push (lrec p m h0.n h.n)).get (ha.n + 1) = lrec p m h0.n h.n := HGet.new.eq
  have FQ : Fr (fun i => i = ha.n + 1 ∨ i = h.n) (ha.push (.defs false)) ((ha.push (.defs false)).push (lrec p m h0.n h.n)) := Fr.refl.push
  refine range_on (J := fun hx => (∃ (d : List SE) (v : Value), d.Perm l ∧ hx.get h.n = .cells [v] 0 ∧ Own hx 1 v (pcells ((looseL d).map SE.b)) ((looseL d).map SE.b).length ∧ ∀ i, ownedBy v i → ha.n + 2 < i) ∧ Fr (fun i => i = ha.n + 1 ∨ i = h.n) (ha.push (.defs false)) hx) ?_ (fun hx hJ => ?_)
  · show Runs _ _ _ _ ((ha.push (.defs false)).push (lrec p m h0.n h.n)) _ _
    generalize (ha.push (.defs false)).push (lrec p m h0.n h.n) = hl at *
    refine Runs.mono (vals1_ok (c := c) (l := l.map SE.ent) (I := fun d hx => hx.get (ha.n + 1) = lrec p m h0.n h.n ∧ (∃ (D : List SE) (v : Value), D.map SE.ent = d ∧ (∀ e ∈ D, e ∈ l) ∧ hx.get h.n = .cells [v] 0 ∧ Own hx 1 v (pcells ((looseL D).map SE.b)) ((looseL D).map SE.b).length ∧ ∀ i, ownedBy v i → ha.n + 2 < i) ∧ ha.n + 1 < hx.n ∧ Fr (fun i => i = ha.n + 1 ∨ i = h.n) (ha.push (.defs false)) hx) (by rw [FL.get _ (by omega) id]; exact gx) (FL.lt (by omega)) (by rw [F1.get _ hml id]; exact hs.gm) (F1.lt hml) hs.ok ?_ ?_ ?_) (fun _ h' hh => ?_) (fun _ _ h => h)
    · intro hx hf
      refine ⟨by rw [hf.get _ (by omega) id]; exact gq, ⟨[], _, rfl, by simp, ?_, .none, fun i hi => hi.elim⟩, hf.lt (by omega), ?_⟩
      · rw [hf.get _ (by omega) id, FL.get _ (by omega) id, fa.get _ (by omega) id]
        exact g2
      · exact FQ.trans' (hf.mono fun _ _ e => e.elim)
    · rintro d hx hx' ⟨i1, ⟨D, v, j1, j2, i2, i3, i4⟩, i5, i6⟩ hf
      have i7 := i6.n
      exact ⟨by rw [hf.get _ i5 (by omega)]; exact i1, ⟨D, v, j1, j2, by rw [hf.get _ (by omega) (by omega)]; exact i2, i3.keep hf fun i hi e => by have := i4 i hi; omega, i4⟩, hf.lt i5, i6.trans hf fun i hi e => by omega⟩
    · rintro d e hx hn ⟨i1, ⟨D, v, j1, j2, i2, i3, i4⟩, i5, i6⟩ he hdl
      have i7 := i6.n
      obtain ⟨s, hsl, rfl⟩ := List.mem_map.1 he
      have FD : Fr (fun i => i = ha.n + 1 ∨ i = h.n) ha hx := Fr.trans' (Fr.refl.push (o := .defs false)) i6
      have FX : Fr (fun _ => False) h hx := Fa.trans FD fun i hi e => by omega
      have hat := hs.ats s hsl
      have hbl := hat.lt
      have hDl : D.length < l.length := by rw [← j1] at hdl; simpa using hdl
      have hLl : ((looseL D).map SE.b).length ≤ D.length := by rw [List.length_map]; exact List.length_filter_le _ _
      refine Runs.mono (lo_round (e := s) (hat.keep FX fun _ _ => id) i1 i2 i3 (by omega) (fun i hi => ?_) i5 (by omega) (by omega) (by omega)) (fun r h' hh => ?_) (fun _ _ h => h)
      · have := i4 i hi
        omega
      · obtain ⟨rfl, k1, ⟨v', k2, k3, k4⟩, k5⟩ := hh
        have k6 : Fr (fun i => i = ha.n + 1 ∨ i = h.n) (ha.push (.defs false)) h' := i6.trans k5 fun i hi e => by
          rcases e with e | e | e
          · exact .inl e
          · exact .inr e
          · have := i4 i e
            omega
        refine ⟨rfl, ⟨k1, ⟨D ++ [s], v', by rw [List.map_append, j1]; rfl, fun x hx => ?_, k2, by rw [loose_snoc]; exact k3, fun i hi => ?_⟩, k5.lt i5, k6⟩, k5.mono fun i hi e => ?_⟩
        · rcases List.mem_append.1 hx with hx | hx
          · exact j2 x hx
          · simp only [List.mem_singleton] at hx
            subst hx
            exact hsl
        · rcases k4 i hi with h7 | h7
          · exact i4 i h7
          · omega
        · rcases e with e | e | e
          · omega
          · omega
          · have := i4 i e
            omega
    · obtain ⟨d, hd2, i1, ⟨D, v, j1, j2, i2, i3, i4⟩, i5, i6⟩ := hh
      exact ⟨i1, ⟨D, v, perm_back hs.ok j1 j2 hd2, i2, i3, i4⟩, i6⟩
  · obtain ⟨⟨d, v, hperm, q4, ho, hnew⟩, hf⟩ := hJ
    have gdf : hx.get ha.n = .defs false := by rw [hf.get _ (by omega) (by omega)]; exact HGet.new.eq
    have FD : Fr (fun i => i = ha.n + 1 ∨ i = h.n) ha hx := Fr.trans' (Fr.refl.push (o := .defs false)) hf
    have hfx : Fr (fun _ => False) h hx := Fa.trans FD fun i hi e => by omega
    have hxn := hf.n
    haveI : HGet hx h.n _ := ⟨q4⟩
    haveI : HGet hx ha.n _ := ⟨gdf⟩
    haveI : BLt h.n hx := ⟨by omega⟩
    haveI : BNe h.n (ha.n + 1) := ⟨by omega⟩
    haveI : BNe ha.n (ha.n + 1) := ⟨by omega⟩
    haveI : BNe ha.n h.n := ⟨by omega⟩
    haveI : BNe h.n ha.n := ⟨by omega⟩
    obtain ⟨a3, c3, rfl, _, _⟩ := id ho.rd
    refine stp ?_
    refine B.retC ?_
    have fS : ∀ {A B C D : AObj}, Fr (fun i => i = ha.n + 1 ∨ i = h.n ∨ i = ha.n) hx ((((hx.set (ha.n + 1) A).set (ha.n + 1) B).set h.n C).set ha.n D) := fun {A B C D} => (((Fr.refl.set fun _ => .inl rfl).set fun _ => .inl rfl).set fun _ => .inr (.inl rfl)).set fun _ => .inr (.inr rfl)
    exact ⟨looseL d, hperm.filter _, ho.keep fS fun b hb e => by have := hnew b hb; omega, fun i hi => by have := hnew i hi; omega, hfx.trans fS fun i hi e => by omega⟩
end Go.Proofs.Ytmhnddkpiefkhaa.A

namespace Go.Proofs.Ytmhnddkpiefkhaa.A
open Go Go.Vm
set_option maxRecDepth 10000
set_option linter.unusedVariables false
def cmpI (a b : Int) : Int := if a < b then -1 else if b < a then 1 else 0
def orI (a b : Int) : Int := if a = 0 then b else a
def rankS (e : SE) : Int := if e.v then 1 else 0
def ordS (a b : SE) : Int := orI (cmpI (rankS a) (rankS b)) (cmpI a.k b.k)
theorem isNaN_ok {h : Heap} {a : Int} : Runs Try.prog T0 (.fn fn_zcQ) [.int .i64 a] h (fun r h' => r = .bool false ∧ h' = h) (fun _ _ => False) := by
  refine zcQ_runs ?_
  refine stp ?_
  exact ⟨by simp, rfl⟩
theorem Compare_ok {h : Heap} {a b : Int} : Runs Try.prog T0 (.fn fn_zaQ) [.int .i64 a, .int .i64 b] h (fun r h' => r = .int .i64 (cmpI a b) ∧ h' = h) (fun _ _ => False) := by
  refine zaQ_runs ?_
  refine stp ?_
  refine O.call' isNaN_ok (fun r h1 hr => ?_)
  obtain ⟨rfl, rfl⟩ := hr
  refine stp ?_
  refine O.call' isNaN_ok (fun r h1 hr => ?_)
  obtain ⟨rfl, rfl⟩ := hr
  refine stp ?_
  unfold cmpI
  refine C.if (fun h1 => ?_) (fun h1 => ?_)
  · refine stp ?_
    rw [if_pos h1]
    exact ⟨rfl, rfl⟩
  · refine stp ?_
    rw [if_neg h1]
    refine C.if (fun h2 => ?_) (fun h2 => ?_)
    · refine stp ?_
      rw [if_pos h2]
      exact ⟨rfl, rfl⟩
    · refine stp ?_
      rw [if_neg h2]
      exact ⟨rfl, rfl⟩
theorem Or_ok {h : Heap} {q : Nat} {a b : Int} (hq : h.get q = .cells [.int .i64 a, .int .i64 b] 0) (ql : q < h.n) : Runs Try.prog T0 (.fn fn_zbQ) [.slice (some ⟨q, 0, none⟩) 2 2] h (fun r h' => r = .int .i64 (orI a b) ∧ h' = h) (fun _ _ => False) := by
  haveI : HGet h q _ := ⟨hq⟩
  refine zbQ_runs ?_
  refine stp ?_
  refine loop1 zbQ_l0_M 8 (fun m v8 hx => hx = h ∧ (m = 2 ∧ v8 = .int .i64 0 ∨ m = 1 ∧ v8 = .int .i64 1 ∧ a = 0 ∨ m = 0 ∧ v8 = .int .i64 2 ∧ a = 0 ∧ b = 0)) ?_ 2 ⟨rfl, .inl ⟨rfl, rfl⟩⟩
  rintro m v8 h' x2 x5 x9 x10 x11 x12 x13 x14 x15 x16 ⟨rfl, ⟨rfl, rfl⟩ | ⟨rfl, rfl, ha⟩ | ⟨rfl, rfl, ha, hb⟩⟩
  · refine stp ?_
    refine C.ifN (fun e1 => ?_) (fun e1 => ?_)
    · refine stp ?_
      unfold orI
      rw [if_neg e1]
      exact ⟨rfl, rfl⟩
    · refine stp ?_
      exact loop1a 8 1 (by omega) ⟨rfl, .inr (.inl ⟨rfl, rfl, e1⟩)⟩
  · refine stp ?_
    refine C.ifN (fun e1 => ?_) (fun e1 => ?_)
    · refine stp ?_
      unfold orI
      rw [if_pos ha]
      exact ⟨rfl, rfl⟩
    · refine stp ?_
      exact loop1a 8 0 (by omega) ⟨rfl, .inr (.inr ⟨rfl, rfl, ha, e1⟩)⟩
  · refine stp ?_
    unfold orI
    rw [if_pos ha, hb]
    exact ⟨rfl, rfl⟩
theorem rank_ok {h : Heap} {e : SE} (he : e.At h) : Runs Try.prog T0 (.fn fn_zvbQ) [.pointer (some ⟨e.b, 0, none⟩)] h (fun r h' => r = .int .i64 (rankS e) ∧ h' = h) (fun _ _ => False) := by
  haveI := l32 he.hd.prev
  haveI := l32 he.hd.vals
  haveI := l32 he.hd.next
  haveI := l32 he.hd.app
  haveI := l32 he.hash
  haveI : HGet h e.b _ := ⟨he.get⟩
  refine zvbQ_runs ?_
  refine stp ?_
  unfold rankS
  refine C.ifB (fun e1 => ?_) (fun e1 => ?_)
  · refine stp ?_
    rw [if_pos e1]
    exact ⟨rfl, rfl⟩
  · refine stp ?_
    rw [if_neg (by rw [e1]; decide)]
    exact ⟨rfl, rfl⟩
set_option maxHeartbeats 4000000 in
theorem order_ok {h : Heap} {a b : SE} (ha : a.At h) (hb : b.At h) : Runs Try.prog T0 (.fn fn_zubQ) [.pointer (some ⟨a.b, 0, none⟩), .pointer (some ⟨b.b, 0, none⟩)] h (fun r h' => r = .int .i64 (ordS a b) ∧ Fr (fun _ => False) h h') (fun _ _ => False) := by
  haveI := l32 ha.hd.prev
  haveI := l32 ha.hd.vals
  haveI := l32 ha.hd.next
  haveI := l32 ha.hd.app
  haveI := l32 ha.hash
  haveI := l32 hb.hd.prev
  haveI := l32 hb.hd.vals
  haveI := l32 hb.hd.next
  haveI := l32 hb.hd.app
  haveI := l32 hb.hash
  haveI : HGet h a.b _ := ⟨ha.get⟩
  haveI : HGet h b.b _ := ⟨hb.get⟩
  refine zubQ_runs ?_
  refine stp ?_
  refine D.callX (R := fun r h' => r = .int .i64 (rankS a) ∧ h' = h) (X := fun _ _ => False) (rank_ok ha) (fun r h1 hr => ?_) (fun r h1 hr => ?_) (fun _ _ hx => hx.elim)
  · obtain ⟨rfl, rfl⟩ := hr
    exact StabL.ok
  obtain ⟨rfl, rfl⟩ := hr
  refine stp ?_
  refine D.callX (R := fun r h' => r = .int .i64 (rankS b) ∧ h' = _) (X := fun _ _ => False) (rank_ok hb) (fun r h1 hr => ?_) (fun r h1 hr => ?_) (fun _ _ hx => hx.elim)
  · obtain ⟨rfl, rfl⟩ := hr
    exact StabL.ok
  obtain ⟨rfl, rfl⟩ := hr
  refine stp ?_
  refine D.callX (R := fun r h' => r = .int .i64 (cmpI (rankS a) (rankS b)) ∧ h' = _) (X := fun _ _ => False) Compare_ok (fun r h1 hr => ?_) (fun r h1 hr => ?_) (fun _ _ hx => hx.elim)
  · obtain ⟨rfl, rfl⟩ := hr
    exact StabL.ok
  obtain ⟨rfl, rfl⟩ := hr
  refine stp ?_
  refine D.callX (R := fun r h' => r = .int .i64 (cmpI a.k b.k) ∧ h' = _) (X := fun _ _ => False) Compare_ok (fun r h1 hr => rfl) (fun r h1 hr => ?_) (fun _ _ hx => hx.elim)
  obtain ⟨rfl, rfl⟩ := hr
  refine stp ?_
  refine D.callX (X := fun _ _ => False) (Or_ok (a := cmpI (rankS a) (rankS b)) (b := cmpI a.k b.k) HGet.new.eq (by simp)) (fun r h1 hr => rfl) (fun r h1 hr => ?_) (fun _ _ hx => hx.elim)
  obtain ⟨rfl, rfl⟩ := hr
  refine stp ?_
  exact ⟨rfl, Fr.refl.push⟩
end Go.Proofs.Ytmhnddkpiefkhaa.A

namespace Go.Proofs.Ytmhnddkpiefkhaa.A
open Go Go.Vm
set_option maxRecDepth 10000
set_option linter.unusedVariables false
instance : Inhabited SE := ⟨⟨0, 0, zBk, .slice none 0 0, .slice none 0 0, false, false⟩⟩
theorem at_map {α β : Type} [Inhabited α] [Inhabited β] (f : α → β) {l : List α} {i : Nat} (hi : i < l.length) : at' (l.map f) i = f (at' l i) := by
  simp only [at', List.getD_eq_getElem?_getD, List.getElem?_map, List.getElem?_eq_getElem hi, Option.map_some, Option.getD_some]
theorem pget {l : List Nat} {j : List Value} {i : Nat} (hi : i < l.length) : CGet (pcells l ++ j) i (.pointer (some ⟨at' l i, 0, none⟩)) := by
  refine ⟨?_, by rw [List.length_append, pcells_len]; omega⟩
  induction l generalizing i with
  | nil => simp at hi
  | cons a l ih =>
    cases i with
    | zero => rfl
    | succ i => exact ih (by simpa using hi)
def KeyLt (a b : SE) : Prop := rankS a < rankS b ∨ rankS a = rankS b ∧ a.k < b.k
theorem cmpI_cases (x y : Int) : cmpI x y = -1 ∧ x < y ∨ cmpI x y = 1 ∧ y < x ∨ cmpI x y = 0 ∧ x = y := by
  unfold cmpI
  split
  · exact .inl ⟨rfl, by assumption⟩
  · split
    · exact .inr (.inl ⟨rfl, by assumption⟩)
    · exact .inr (.inr ⟨rfl, by omega⟩)
theorem ord_lt (a b : SE) : ordS a b < 0 ↔ KeyLt a b := by
  unfold ordS orI KeyLt
  generalize rankS a = x
  generalize rankS b = y
  generalize a.k = u
  generalize b.k = v
  rcases cmpI_cases x y with ⟨h1, h2⟩ | ⟨h1, h2⟩ | ⟨h1, h2⟩
  · rw [h1, if_neg (by decide)]
    omega
  · rw [h1, if_neg (by decide)]
    omega
  · rw [h1, if_pos rfl]
    rcases cmpI_cases u v with ⟨h3, h4⟩ | ⟨h3, h4⟩ | ⟨h3, h4⟩ <;> rw [h3] <;> omega
set_option maxHeartbeats 4000000 in
theorem MinFunc_ok {h : Heap} {v : Value} {d : List SE} (ho : Own h 1 v (pcells (d.map SE.b)) (d.map SE.b).length) (hd : ∀ e ∈ d, e.At h) (h0 : 0 < d.length) (hl : d.length < 100000) :
    Runs Try.prog T0 (.fn fn_zabQ) [v, .func (.func fn_zubQ) ⟨[]⟩ ⟨[]⟩] h (fun r h' => ∃ e ∈ d, r = .pointer (some ⟨e.b, 0, none⟩) ∧ (∀ x ∈ d, ¬ KeyLt x e) ∧ Fr (fun _ => False) h h') (fun _ _ => False) := by
  generalize hn : (d.map SE.b).length = n at *
  generalize hc : pcells (d.map SE.b) = cc at *
  have hnl : n = d.length := by rw [← hn]; simp
  refine zabQ_runs ?_
  cases ho with
  | none => omega
  | lit _ _ => omega
  | grown hq hn0 hle hl3 hl2 hgq =>
    rename_i q kk cap j
    subst hc
    haveI : HGet h q _ := ⟨hgq⟩
    haveI := pget (l := d.map SE.b) (j := j) (i := 0) (by omega)
    refine stp ?_
    refine C.if (fun e => absurd e (by omega)) (fun _ => ?_)
    refine stp ?_
    refine loop2 zabQ_l0_M 5 6 (fun m v5 v6 hx => ∃ (i : Nat) (e : SE), 1 ≤ i ∧ i ≤ n ∧ m = n - i ∧ v5 = .pointer (some ⟨e.b, 0, none⟩) ∧ v6 = .int .i64 i ∧ e ∈ d ∧ (∀ x ∈ d.take i, ¬ KeyLt x e) ∧ Fr (fun _ => False) h hx) ?_ (n - 1) ⟨1, at' d 0, by omega, by omega, rfl, by rw [at_map SE.b (by omega)], rfl, at_mem (by omega), ?_, Fr.refl⟩
    · rintro m v5 v6 h' x14 x15 x16 x17 x18 x19 x20 x21 x22 x23 x24 x25 x26 x27 x28 x29 x30 x31 ⟨i, e, hi1, hin, rfl, rfl, rfl, he, hmin, hf⟩
      haveI : HGet h' q _ := hf.keep ⟨hgq⟩ hq id
      refine stp ?_
      refine C.if (fun hlt => ?_) (fun hge => ?_)
      · have hlt : i < n := by omega
        haveI := pget (l := d.map SE.b) (j := j) (i := i) (by omega)
        have hai : at' (d.map SE.b) i = (at' d i).b := at_map SE.b (by omega)
        have hmem : at' d i ∈ d := at_mem (by omega)
        have htake : d.take (i + 1) = d.take i ++ [at' d i] := by
          rw [List.take_add_one, at', List.getD_eq_getElem?_getD, List.getElem?_eq_getElem (show i < d.length by omega)]
          rfl
        refine stp ?_
        rw [hai]
        refine O.call' (order_ok ((hd _ hmem).keep hf fun _ _ => id) ((hd e he).keep hf fun _ _ => id)) (fun r h3 hr => ?_)
        obtain ⟨rfl, hf3⟩ := hr
        have hF3 := hf.trans' hf3
        haveI : HGet h3 q _ := hF3.keep ⟨hgq⟩ hq id
        refine stp ?_
        refine C.if (fun hlo => ?_) (fun hlo => ?_)
        · have hk := (ord_lt _ _).1 hlo
          refine stp ?_
          rw [hai]
          refine loop2a 5 6 (n - (i + 1)) (by omega) ⟨i + 1, at' d i, by omega, by omega, rfl, rfl, rfl, hmem, fun x hx => ?_, hF3⟩
          rw [htake] at hx
          rcases List.mem_append.1 hx with hx | hx
          · have := hmin x hx
            intro hxa
            refine this ?_
            unfold KeyLt at *
            omega
          · simp only [List.mem_singleton] at hx
            subst hx
            unfold KeyLt
            omega
        · have hk := fun e1 => hlo ((ord_lt _ _).2 e1)
          refine stp ?_
          refine loop2a 5 6 (n - (i + 1)) (by omega) ⟨i + 1, e, by omega, by omega, rfl, rfl, rfl, he, fun x hx => ?_, hF3⟩
          rw [htake] at hx
          rcases List.mem_append.1 hx with hx | hx
          · exact hmin x hx
          · simp only [List.mem_singleton] at hx
            subst hx
            exact hk
      · refine stp ?_
        obtain rfl : i = n := by omega
        rw [List.take_of_length_le (by omega)] at hmin
        exact ⟨e, he, rfl, hmin, hf⟩
    · intro x hx
      have h1 : d.take 1 = [at' d 0] := by
        cases d with
        | nil => simp at h0
        | cons a d => rfl
      rw [h1, List.mem_singleton] at hx
      subst hx
      unfold KeyLt
      omega
end Go.Proofs.Ytmhnddkpiefkhaa.A

namespace Go.Proofs.Ytmhnddkpiefkhaa.A
open Go Go.Vm
set_option maxRecDepth 10000
set_option linter.unusedVariables false
theorem CloneT_ok {h : Heap} {v : Value} {l : List Vote} (hr : Rd h 2 v (tcells l) l.length) (hs : l.length < 1048576) :
    Runs Try.prog T0 (.fn fn_zyQ) [v] h
      (fun r h' => Own h' 2 r (tcells l) l.length ∧ Fr (fun _ => False) h h' ∧ ∀ i, ownedBy r i → h.n ≤ i) (fun _ _ => False) := by
  have hr0 := hr
  obtain ⟨a, cap, rfl, hlen, hc⟩ := hr
  refine zyQ_runs ?_
  cases a with
  | none =>
    have hl : l = [] := by
      cases l with
      | nil => rfl
      | cons b l => obtain ⟨_, _, _, h1, _⟩ := hc (by simp); cases h1
    subst hl
    refine stp ?_
    exact ⟨.none, Fr.refl, fun i hi => hi.elim⟩
  | some a =>
    refine stp ?_
    refine appendLitC hr0 hs (by omega) (fun v' h' h1 h2 h3 => ?_)
    refine stp ?_
    exact ⟨h1, h2, h3⟩
end Go.Proofs.Ytmhnddkpiefkhaa.A

namespace Go.Proofs.Ytmhnddkpiefkhaa.A
open Go Go.Vm
set_option maxRecDepth 10000
set_option linter.unusedVariables false
set_option maxHeartbeats 4000000 in
theorem sown_ok {h : Heap} {x : Bk} {sv sl : Value} (hb : BkRd h x sv sl) (h1 : x.c.votes.length < 1048576) (h2 : x.vals.length < 1048576) :
    Runs Try.prog T0 (.fn fn_zwbQ) [.agg ⟨x.cells sv sl⟩] h
      (fun r h' => ∃ sw sm, r = .agg ⟨x.cells sw sm⟩ ∧ Own h' 2 sw (tcells x.c.votes) x.c.votes.length ∧ Own h' 5 sm (vcells x.vals) x.vals.length ∧ (∀ i, ownedBy sw i → h.n ≤ i) ∧ (∀ i, ownedBy sm i → h.n ≤ i) ∧ (∀ i, ownedBy sm i → ¬ ownedBy sw i) ∧ Fr (fun _ => False) h h') (fun _ _ => False) := by
  have hx := hb.hd
  have hch := hb.hash
  haveI := l32 hx.prev
  haveI := l32 hx.vals
  haveI := l32 hx.next
  haveI := l32 hx.app
  haveI := l32 hch
  obtain ⟨a1, c1, rfl, _, _⟩ := id hb.sv
  obtain ⟨a2, c2, rfl, _, _⟩ := id hb.sl
  refine zwbQ_runs ?_
  refine stp ?_
  have gA : HGet ((h.push (.cells (x.cells (.slice a1 x.c.votes.length c1) (.slice a2 x.vals.length c2)) 0)).push (.cells zBc 0)) h.n (.cells (x.cells (.slice a1 x.c.votes.length c1) (.slice a2 x.vals.length c2)) 0) := HGet.push (k := BLt.new) (g := HGet.new)
  have gB : HGet ((h.push (.cells (x.cells (.slice a1 x.c.votes.length c1) (.slice a2 x.vals.length c2)) 0)).push (.cells zBc 0)) (h.push (.cells (x.cells (.slice a1 x.c.votes.length c1) (.slice a2 x.vals.length c2)) 0)).n (.cells zBc 0) := HGet.new
  have f0 : Fr (fun _ => False) h ((h.push (.cells (x.cells (.slice a1 x.c.votes.length c1) (.slice a2 x.vals.length c2)) 0)).push (.cells zBc 0)) := Fr.refl.push.push
  have n0 : ((h.push (.cells (x.cells (.slice a1 x.c.votes.length c1) (.slice a2 x.vals.length c2)) 0)).push (.cells zBc 0)).n = h.n + 2 := rfl
  have nb : (h.push (.cells (x.cells (.slice a1 x.c.votes.length c1) (.slice a2 x.vals.length c2)) 0)).n = h.n + 1 := rfl
  generalize (h.push (.cells (x.cells (.slice a1 x.c.votes.length c1) (.slice a2 x.vals.length c2)) 0)).push (.cells zBc 0) = h0 at *
  generalize (h.push (.cells (x.cells (.slice a1 x.c.votes.length c1) (.slice a2 x.vals.length c2)) 0)).n = pb at *
  haveI := gA
  haveI : BLt h.n h0 := ⟨by omega⟩
  refine stp ?_
  refine D.callX (CloneV_ok (hb.keep f0 fun _ _ => id).sl h2) (fun r h3 hr => ?_) (fun r h3 hr => ?_) (fun _ _ hx => hx.elim)
  · obtain ⟨_, hf, _⟩ := hr
    haveI := hf.keep gA (by omega) id
    haveI : BLt h.n h3 := ⟨by have := hf.n; omega⟩
    exact StabL.ok
  obtain ⟨ho, hf3, hnew⟩ := hr
  have gA3 := hf3.keep gA (by omega) id
  have gB3 := hf3.keep gB (by omega) id
  have n3 := hf3.n
  have F3 := f0.trans' hf3
  haveI := gA3
  haveI : BLt h.n h3 := ⟨by omega⟩
  refine stp ?_
  refine D.callX (CloneT_ok (hb.keep F3 fun _ _ => id).sv h1) (fun r h4 hr => ?_) (fun r h4 hr => ?_) (fun _ _ hx => hx.elim)
  · obtain ⟨_, hf, _⟩ := hr
    haveI := hf.keep gA3 (by omega) id
    haveI : BLt h.n h4 := ⟨by have := hf.n; omega⟩
    exact StabL.ok
  obtain ⟨hov, hf4, hnv⟩ := hr
  have gA4 := hf4.keep gA3 (by omega) id
  have gB4 := hf4.keep gB3 (by omega) id
  have n4 := hf4.n
  have F4 := F3.trans' hf4
  have ho4 := ho.keep hf4 fun _ _ => id
  obtain ⟨a3, c3, rfl, _, _⟩ := id ho.rd
  obtain ⟨a4, c4, rfl, _, _⟩ := id hov.rd
  haveI := gA4
  haveI := gB4
  haveI : BLt h.n h4 := ⟨by omega⟩
  haveI : BLt pb h4 := ⟨by omega⟩
  haveI : BNe pb h.n := ⟨by omega⟩
  haveI : BNe h.n pb := ⟨by omega⟩
  refine stp ?_
  have f6 : ∀ {o1 o2 : AObj}, Fr (fun i => i = h.n ∨ i = pb) h4 ((h4.set h.n o1).set pb o2) := fun {o1 o2} => (Fr.refl.set fun _ => .inl rfl).set fun _ => .inr rfl
  refine ⟨_, _, rfl, hov.keep f6 fun b hb e => by have := hnv b hb; omega, ho4.keep f6 fun b hb e => by have := hnew b hb; omega, fun i hi => by have := hnv i hi; omega, fun i hi => by have := hnew i hi; omega, fun i hi e => by have := ho.lt hi; have := hnv i e; omega, F4.trans f6 fun i hi e => by omega⟩
theorem snone_ok {h : Heap} {p m c : Nat} {room : Int} {l : List SE} (hs : StAt h p m c room l) : Runs Try.prog T0 (.fn fn_znbQ) [.pointer (some ⟨p, 0, none⟩)] h (fun r h' => r = .bool false ∧ h' = h) (fun _ _ => False) := by
  haveI : HGet h p _ := ⟨hs.gp⟩
  refine znbQ_runs ?_
  refine stp ?_
  exact ⟨rfl, rfl⟩
theorem SNew_ok {h : Heap} {room : Int} : Runs Try.prog T0 (.fn fn_zbbQ) [.int .i64 room] h
    (fun r h' => Fr (fun _ => False) h h' ∧ ((room < 1 ∨ 4096 < room) ∧ r = .tuple ⟨[.pointer none, .int .i64 3]⟩ ∨ (1 ≤ room ∧ room ≤ 4096) ∧ r = .tuple ⟨[.pointer (some ⟨h.n + 1, 0, none⟩), .int .i64 0]⟩ ∧ StAt h' (h.n + 1) h.n 0 room [])) (fun _ _ => False) := by
  refine zbbQ_runs ?_
  refine stp ?_
  refine O.dec (fun h1 => ?_) (fun h1 => ?_)
  · refine stp ?_
    exact ⟨Fr.refl, .inl ⟨.inl h1, rfl⟩⟩
  · refine stp ?_
    refine C.if (fun h2 => ?_) (fun h2 => ?_)
    · refine stp ?_
      exact ⟨Fr.refl, .inl ⟨.inr h2, rfl⟩⟩
    · refine stp ?_
      refine ⟨Fr.refl.push.push, .inr ⟨⟨by omega, by omega⟩, rfl, ⟨by simp, by simp; omega, by omega, HGet.new.eq, ?_, EntsOK.nil, by simp, by simp, List.nodup_nil, by simp⟩⟩⟩
      rw [Heap.get_push, if_neg (by simp), Heap.get_push, if_pos rfl]
      rfl
end Go.Proofs.Ytmhnddkpiefkhaa.A

namespace Go.Proofs.Ytmhnddkpiefkhaa.A
open Go Go.Vm
set_option maxRecDepth 10000
set_option linter.unusedVariables false
theorem lookup_any {l : List Ent} {c : Nat} {k : Int} (hn : EntsOK l c) (zero : Value) : ∃ pv b, (b = true → ∃ e ∈ l, e.k = k ∧ pv = e.v) ∧ (b = false → (∀ e ∈ l, e.k ≠ k) ∧ pv = zero) ∧
    ∀ {P : Program} {ts : List Value} {h : Heap} {m x : Operand} {r : Nat} [Ev ts m (.map (some r))] [HGet h r (.map (ents l) c)] [Ev ts x (.int .i64 k)], XOp P ts h (.lookup (.int .i64) zero true m x) (.tuple ⟨[pv, .bool b]⟩) h := by
  by_cases h : ∃ e ∈ l, e.k = k
  · obtain ⟨e, he, hk⟩ := h
    exact ⟨e.v, true, fun _ => ⟨e, he, hk, rfl⟩, fun h => (by cases h), fun {P ts h m x r} _ _ _ => XOp.lookupYes he hn hk⟩
  · have h' : ∀ e ∈ l, e.k ≠ k := fun e he hk => h ⟨e, he, hk⟩
    exact ⟨zero, false, fun h => (by cases h), fun _ => ⟨h', rfl⟩, fun {P ts h m x r} _ _ _ => XOp.lookupNo h'⟩
theorem StAt.del {h : Heap} {p m c : Nat} {room : Int} {l : List SE} (hs : StAt h p m c room l) (q : SE → Bool) : StAt (h.set m (.map (ents ((l.filter q).map SE.ent)) c)) p m c room (l.filter q) := by
  have hf : Fr (fun i => i = m) h (h.set m (.map (ents ((l.filter q).map SE.ent)) c)) := Fr.refl.set fun _ => rfl
  have hm : ∀ e ∈ l.filter q, e ∈ l := fun e he => (List.mem_filter.1 he).1
  refine ⟨hf.lt hs.pl, hf.lt hs.ml, hs.pm, by rw [hf.get _ hs.pl hs.pm]; exact hs.gp, by rw [Heap.get_set, if_pos rfl], ⟨?_, ?_, fun e he => ?_⟩, fun e he => (hs.ats e (hm e he)).keep hf fun i hi => (hs.sp e (hm e he) i hi).2, fun e he => hs.sp e (hm e he), hs.nd.sublist ((List.filter_sublist).map _), fun e he e' he' => hs.sv e (hm e he) e' (hm e' he')⟩
  · exact hs.ok.k.sublist (((List.filter_sublist).map _).map _)
  · exact hs.ok.t.sublist (((List.filter_sublist).map _).map _)
  · obtain ⟨s, hs2, rfl⟩ := List.mem_map.1 he
    exact hs.ok.lt _ (List.mem_map.2 ⟨s, hm s hs2, rfl⟩)
theorem StAt.add {h : Heap} {p m c : Nat} {room : Int} {l : List SE} {n : SE} (hs : StAt h p m c room l) (hn : n.At h) (ht : n.t = c) (hk : ∀ y ∈ l, y.k ≠ n.k) (hm : ∀ i, n.mine i → ¬ Mine p m l i) (hb : ¬ ownedBy n.sv n.b ∧ ¬ ownedBy n.sl n.b) :
    StAt (h.set m (.map (ents (l.map SE.ent ++ [n.ent])) (c + 1))) p m (c + 1) room (l ++ [n]) := by
  have hf : Fr (fun i => i = m) h (h.set m (.map (ents (l.map SE.ent ++ [n.ent])) (c + 1))) := Fr.refl.set fun _ => rfl
  have e1 : (l ++ [n]).map SE.ent = l.map SE.ent ++ [n.ent] := by simp
  have e2 : n.ent = ⟨n.k, .pointer (some ⟨n.b, 0, none⟩), c⟩ := by rw [← ht]; rfl
  refine ⟨hf.lt hs.pl, hf.lt hs.ml, hs.pm, by rw [hf.get _ hs.pl hs.pm]; exact hs.gp, by rw [Heap.get_set, if_pos rfl, e1], ?_, fun e he => ?_, fun e he i hi => ?_, ?_, fun e he e' he' => ?_⟩
  · rw [e1, e2]
    exact hs.ok.add fun e he => by
      obtain ⟨s, hs2, rfl⟩ := List.mem_map.1 he
      exact hk s hs2
  · rcases List.mem_append.1 he with he | he
    · exact (hs.ats e he).keep hf fun i hi => (hs.sp e he i hi).2
    · simp only [List.mem_singleton] at he
      subst he
      exact hn.keep hf fun i hi e => hm i hi (.inr (.inl e))
  · rcases List.mem_append.1 he with he | he
    · exact hs.sp e he i hi
    · simp only [List.mem_singleton] at he
      subst he
      exact ⟨fun e => hm i hi (.inl e), fun e => hm i hi (.inr (.inl e))⟩
  · rw [List.map_append, List.nodup_append]
    refine ⟨hs.nd, by simp, fun a ha b hb e => ?_⟩
    obtain ⟨s, hs2, rfl⟩ := List.mem_map.1 ha
    simp only [List.map_cons, List.map_nil, List.mem_singleton] at hb
    subst hb
    exact hm n.b (.inl rfl) (.inr (.inr ⟨s, hs2, .inl e.symm⟩))
  · rcases List.mem_append.1 he with h1 | h1 <;> rcases List.mem_append.1 he' with h2 | h2
    · exact hs.sv e h1 e' h2
    · have h3 : e' = n := by simpa using h2
      rw [h3]
      exact ⟨fun q => hm n.b (.inl rfl) (.inr (.inr ⟨e, h1, .inr (.inl q)⟩)), fun q => hm n.b (.inl rfl) (.inr (.inr ⟨e, h1, .inr (.inr q)⟩))⟩
    · have h3 : e = n := by simpa using h1
      rw [h3]
      exact ⟨fun q => hm _ (.inr (.inl q)) (.inr (.inr ⟨e', h2, .inl rfl⟩)), fun q => hm _ (.inr (.inr q)) (.inr (.inr ⟨e', h2, .inl rfl⟩))⟩
    · have h3 : e = n := by simpa using h1
      have h4 : e' = n := by simpa using h2
      rw [h3, h4]
      exact hb
def PutRel (room : Int) (l : List SE) (x : Bk) (gone e : Int) (l' : List SE) : Prop :=
  (x.h.height < 1 ∨ 1073741824 < x.h.height) ∧ gone = 0 ∧ e = 13 ∧ l' = l ∨
  (1 ≤ x.h.height ∧ x.h.height ≤ 1073741824) ∧
    ((∃ y ∈ l, y.k = x.h.height) ∧ gone = 0 ∧ e = 8 ∧ l' = l ∨
     (∀ y ∈ l, y.k ≠ x.h.height) ∧
       (room ≤ l.length ∧ (∀ y ∈ l, y.p = true) ∧ gone = 0 ∧ e = 7 ∧ l' = l ∨
        ∃ n : SE, n.x = x ∧ n.v = false ∧ n.p = false ∧ e = 0 ∧
          (l.length < room ∧ gone = 0 ∧ l' = l ++ [n] ∨
           room ≤ l.length ∧ ∃ y ∈ l, y.p = false ∧ (∀ z ∈ l, z.p = false → ¬ KeyLt z y) ∧ gone = y.k ∧ l' = (l.filter fun z => !decide (z.k = y.k)) ++ [n])))
set_option maxHeartbeats 16000000 in
theorem Put_ok {h : Heap} {p m c : Nat} {room : Int} {l : List SE} {x : Bk} {sv sl : Value} (hs : StAt h p m c room l) (hl : l.length < 100000) (hb : BkRd h x sv sl) (hv : x.c.votes.length ≤ 70) (hw : x.vals.length ≤ 70) (hbm : ∀ i, blockOf sv i ∨ blockOf sl i → i ≠ m) :
    Runs Try.prog T0 (.fn fn_zjbQ) [.pointer (some ⟨p, 0, none⟩), .agg ⟨x.cells sv sl⟩] h
      (fun r h' => ∃ gone e l' c', r = .tuple ⟨[.int .i64 gone, .int .i64 e]⟩ ∧ PutRel room l x gone e l' ∧ StAt h' p m c' room l' ∧ Fr (fun i => i = m) h h' ∧ ∀ i, Mine p m l' i → Mine p m l i ∨ h.n ≤ i) (fun _ _ => False) := by
  have hx := hb.hd
  have hch := hb.hash
  haveI := l32 hx.prev
  haveI := l32 hx.vals
  haveI := l32 hx.next
  haveI := l32 hx.app
  haveI := l32 hch
  obtain ⟨a1, c1, rfl, _, _⟩ := id hb.sv
  obtain ⟨a2, c2, rfl, _, _⟩ := id hb.sl
  refine zjbQ_runs ?_
  refine stp ?_
  generalize hX : Value.slice a1 x.c.votes.length c1 = xv at *
  generalize hX' : Value.slice a2 x.vals.length c2 = xl at *
  have gA : (h.push (.cells (x.cells xv xl) 0)).get h.n = .cells (x.cells xv xl) 0 := HGet.new.eq
  have F0 : Fr (fun _ => False) h (h.push (.cells (x.cells xv xl) 0)) := Fr.refl.push
  have n0 : (h.push (.cells (x.cells xv xl) 0)).n = h.n + 1 := rfl
  generalize h.push (.cells (x.cells xv xl) 0) = h0 at *
  have hs0 := hs.keep F0 fun _ _ => id
  have hb0 := hb.keep F0 fun _ _ => id
  haveI : HGet h0 h.n _ := ⟨gA⟩
  haveI : HGet h0 p _ := ⟨hs0.gp⟩
  haveI : HGet h0 m _ := ⟨hs0.gm⟩
  refine O.call' (snone_ok hs0) (fun r h0 hr => ?_)
  obtain ⟨rfl, rfl⟩ := hr
  obtain ⟨pv, b, hb1, hb2, hlk⟩ := lookup_any (k := x.h.height) hs0.ok (.pointer none)
  refine stp ?_
  have hlt0 : h.n < h0.n := by omega
  have FM0 : Fr (fun i => i = m) h h0 := F0.mono fun _ _ e => e.elim
  refine O.dec (fun g1 => ?_) (fun g1 => ?_)
  · refine stp ?_
    exact ⟨0, 13, l, c, rfl, .inl ⟨.inl g1, rfl, rfl, rfl⟩, hs0, FM0, fun i hi => .inl hi⟩
  refine stp ?_
  refine C.if (fun g2 => ?_) (fun g2 => ?_)
  · refine stp ?_
    exact ⟨0, 13, l, c, rfl, .inl ⟨.inr g2, rfl, rfl, rfl⟩, hs0, FM0, fun i hi => .inl hi⟩
  have hin : 1 ≤ x.h.height ∧ x.h.height ≤ 1073741824 := ⟨by omega, by omega⟩
  cases b with
  | true =>
    obtain ⟨e, he, hk, _⟩ := hb1 rfl
    obtain ⟨y, hy, rfl⟩ := List.mem_map.1 he
    refine stp ?_
    exact ⟨0, 8, l, c, rfl, .inr ⟨hin, .inl ⟨⟨y, hy, hk⟩, rfl, rfl, rfl⟩⟩, hs0, FM0, fun i hi => .inl hi⟩
  | false =>
  obtain ⟨hno, rfl⟩ := hb2 rfl
  have hne : ∀ y ∈ l, y.k ≠ x.h.height := fun y hy => hno _ (List.mem_map.2 ⟨y, hy, rfl⟩)
  have elen : (ents (l.map SE.ent)).length = l.length := by simp [ents]
  refine stp ?_
  rw [elen]
  refine C.if (fun hfull => ?full) (fun hfree => ?free)
  case' full =>
    refine stp ?_
    refine O.call' (loose_ok hs0 hl) (fun r h1 hr => ?_)
    obtain ⟨d, hd, hod, hnd, f1⟩ := hr
    have hs1 := hs0.keep f1 fun _ _ => id
    have hdl : (d.map SE.b).length = d.length := by simp
    have hdm : ∀ e ∈ d, e ∈ l ∧ e.p = false := fun e he => by
      have := hd.mem_iff.1 he
      unfold looseL at this
      obtain ⟨q1, q2⟩ := List.mem_filter.1 this
      exact ⟨q1, by simpa using q2⟩
    have hmd : ∀ e ∈ l, e.p = false → e ∈ d := fun e he hp => hd.mem_iff.2 (List.mem_filter.2 ⟨he, by simp [hp]⟩)
    have hdlen : d.length < 100000 := by
      have h1 := hd.length_eq
      have h2 : (looseL l).length ≤ l.length := List.length_filter_le _ _
      omega
    obtain ⟨ad, cd, rfl, _, _⟩ := id hod.rd
    refine stp ?_
    refine C.if (fun hz => ?_) (fun hz => ?_)
    · refine stp ?_
      have hd0 : d = [] := List.length_eq_zero_iff.1 (by omega)
      subst hd0
      refine ⟨0, 7, l, c, rfl, .inr ⟨hin, .inr ⟨hne, .inl ⟨hfull, fun y hy => ?_, rfl, rfl, rfl⟩⟩⟩, hs1, FM0.trans' (f1.mono fun _ _ e => e.elim), fun i hi => .inl hi⟩
      cases hp : y.p with
      | true => rfl
      | false => exact absurd (hmd y hy hp) (by simp)
    refine stp ?_
    refine O.call' (MinFunc_ok hod (fun e he => hs1.ats e (hdm e he).1) (by omega) hdlen) (fun r h2 hr => ?_)
    obtain ⟨y, hyd, rfl, hmin, f2⟩ := hr
    have hs2 := hs1.keep f2 fun _ _ => id
    obtain ⟨hyl, hyp⟩ := hdm y hyd
    have hya := hs2.ats y hyl
    haveI := l32 hya.hd.prev
    haveI := l32 hya.hd.vals
    haveI := l32 hya.hd.next
    haveI := l32 hya.hd.app
    haveI := l32 hya.hash
    have F12 := f1.trans' f2
    haveI : HGet h2 y.b _ := ⟨hya.get⟩
    haveI : HGet h2 p _ := ⟨hs2.gp⟩
    haveI : HGet h2 m _ := ⟨hs2.gm⟩
    refine stp ?_
    refine O.by0 (XOp.deleteYes (l := l.map SE.ent) (c := c) (e := y.ent) (List.mem_map.2 ⟨y, hyl, rfl⟩) hs2.ok rfl).eq rfl ?_
    have e3 : (l.map SE.ent).filter (fun x => !decide (x.k = y.ent.k)) = (l.filter fun z => !decide (z.k = y.k)).map SE.ent := by rw [List.filter_map]; rfl
    rw [e3]
    have hs3 := hs2.del (fun z => !decide (z.k = y.k))
    have fm : Fr (fun i => i = m) h2 (h2.set m (.map (ents ((l.filter fun z => !decide (z.k = y.k)).map SE.ent)) c)) := Fr.refl.set fun _ => rfl
    have F3 : Fr (fun i => i = m) h (h2.set m (.map (ents ((l.filter fun z => !decide (z.k = y.k)).map SE.ent)) c)) := (FM0.trans' (F12.mono fun _ _ e => e.elim)).trans' fm
    have hb3 : BkRd (h2.set m (.map (ents ((l.filter fun z => !decide (z.k = y.k)).map SE.ent)) c)) x xv xl := ⟨hb.hd, hb.hash, hb.sv.keep F3 fun i hi e => hbm i (.inl hi) e, hb.sl.keep F3 fun i hi e => hbm i (.inr hi) e⟩
    have gX3 : (h2.set m (.map (ents ((l.filter fun z => !decide (z.k = y.k)).map SE.ent)) c)).get h.n = .cells (x.cells xv xl) 0 := by
      rw [fm.get _ (by have := F12.n; omega) (by have := hs.ml; omega), F12.get _ hlt0 id]; exact gA
    have hlt3 : h.n < (h2.set m (.map (ents ((l.filter fun z => !decide (z.k = y.k)).map SE.ent)) c)).n := by have := F12.n; simp; omega
    have hsub : ∀ z ∈ (l.filter fun z => !decide (z.k = y.k)), z ∈ l := fun z hz => (List.mem_filter.1 hz).1
    have hrel : ∀ n : SE, n.x = x → n.v = false → n.p = false → PutRel room l x y.x.h.height 0 ((l.filter fun z => !decide (z.k = y.k)) ++ [n]) := fun n q1 q2 q3 =>
      .inr ⟨hin, .inr ⟨hne, .inr ⟨n, q1, q2, q3, rfl, .inr ⟨hfull, y, hyl, hyp, fun z hz hzp => hmin z (hmd z hz hzp), rfl, rfl⟩⟩⟩⟩
    generalize (l.filter fun z => !decide (z.k = y.k)) = L at *
    generalize h2.set m (.map (ents (L.map SE.ent)) c) = hc at *
  case' free =>
    have hs3 := hs0
    have F3 := FM0
    have hb3 := hb0
    have gX3 := gA
    have hlt3 := hlt0
    have hsub : ∀ z ∈ l, z ∈ l := fun z hz => hz
    have hrel : ∀ n : SE, n.x = x → n.v = false → n.p = false → PutRel room l x 0 0 (l ++ [n]) := fun n q1 q2 q3 =>
      .inr ⟨hin, .inr ⟨hne, .inr ⟨n, q1, q2, q3, rfl, .inl ⟨by omega, rfl, rfl⟩⟩⟩⟩
  all_goals
    haveI : HGet _ h.n _ := ⟨gX3⟩
    haveI : HGet _ p _ := ⟨hs3.gp⟩
    haveI : HGet _ m _ := ⟨hs3.gm⟩
    haveI : BLt h.n _ := ⟨hlt3⟩
    haveI : BLt p _ := ⟨hs3.pl⟩
    refine stp ?_
    refine D.callX (sown_ok hb3 (by omega) (by omega)) (fun r h4 hr => ?_) (fun r h4 hr => ?_) (fun _ _ hx => hx.elim)
    · obtain ⟨_, _, _, _, _, _, _, _, f4⟩ := hr
      haveI : HGet h4 h.n _ := f4.keep ⟨gX3⟩ hlt3 id
      haveI : HGet h4 p _ := f4.keep ⟨hs3.gp⟩ hs3.pl id
      repeat refine stab_cons inferInstance ?_
      rfl
    obtain ⟨sw, sm, rfl, o1, o2, m1, m2, m3, f4⟩ := hr
    have hs4 := hs3.keep f4 fun _ _ => id
    obtain ⟨a3, c3, rfl, _, _⟩ := id o1.rd
    obtain ⟨a4, c4, rfl, _, _⟩ := id o2.rd
    haveI : HGet h4 h.n _ := f4.keep ⟨gX3⟩ hlt3 id
    haveI : HGet h4 p _ := ⟨hs4.gp⟩
    haveI : HGet h4 m _ := ⟨hs4.gm⟩
    haveI : BLt h.n h4 := ⟨f4.lt hlt3⟩
    haveI : BLt p h4 := ⟨hs4.pl⟩
    haveI : BLt m h4 := ⟨hs4.ml⟩
    refine stp ?_
    have gP4 := hs4.gp
    have gX4 := f4.get _ hlt3 id
    rw [gX3] at gX4
    refine D.one ?_ ?_
    · repeat refine stab_cons inferInstance ?_
      rfl
    refine stp ?_
    refine D.one0 (k := XOp.mapAdd ?_) rfl ?_
    · exact fun e he => by
        obtain ⟨s, hs2, rfl⟩ := List.mem_map.1 he
        exact hne s (hsub s hs2)
    refine stp ?_
    have q3 := F3.n
    have q4 := f4.n
    have ql : ∀ i, Mine p m _ i → _ := fun i => hs3.mlt (i := i)
    refine ⟨_, _, _, _, rfl, hrel ⟨h4.n, c, x, .slice a3 x.c.votes.length c3, .slice a4 x.vals.length c4, false, false⟩ rfl rfl rfl, (hs4.keep (Fr.refl.push (S := fun _ => False)) fun _ _ => id).add (n := ⟨h4.n, c, x, .slice a3 x.c.votes.length c3, .slice a4 x.vals.length c4, false, false⟩) ⟨hx, hch, HGet.new.eq, Nat.lt_succ_self h4.n, o1.keep (Fr.refl.push (S := fun _ => False)) fun _ _ => id, o2.keep (Fr.refl.push (S := fun _ => False)) fun _ _ => id, hv, hw⟩ rfl (fun y hy => hne y (hsub y hy)) (fun i hi hM => ?_) ⟨fun e => ?_, fun e => ?_⟩, ((F3.trans' (f4.mono fun _ _ e => e.elim)).push).set fun _ => rfl, fun i hi => ?_⟩
    · have h5 := ql i hM
      rcases hi with h6 | h6 | h6
      · have h6 : i = h4.n := h6
        omega
      · have := m1 i h6
        omega
      · have := m2 i h6
        omega
    · exact Nat.lt_irrefl _ (o1.lt e)
    · exact Nat.lt_irrefl _ (o2.lt e)
    · rcases hi with h6 | h6 | ⟨e, he, h6⟩
      · exact .inl (.inl h6)
      · exact .inl (.inr (.inl h6))
      · rcases List.mem_append.1 he with he | he
        · exact .inl (.inr (.inr ⟨e, hsub e he, h6⟩))
        · rw [List.mem_singleton.1 he] at h6
          rcases h6 with h6 | h6 | h6
          · have h6 : i = h4.n := h6
            exact .inr (by omega)
          · have := m1 i h6
            exact .inr (by omega)
          · have := m2 i h6
            exact .inr (by omega)
end Go.Proofs.Ytmhnddkpiefkhaa.A

namespace Go.Proofs.Ytmhnddkpiefkhaa.A
open Go Go.Vm
set_option maxRecDepth 10000
set_option linter.unusedVariables false
theorem key_inj {h : Heap} {p m c : Nat} {room : Int} {l : List SE} (hs : StAt h p m c room l) {a b : SE} (ha : a ∈ l) (hb : b ∈ l) (e : a.k = b.k) : a = b := by
  have ht : (l.map SE.k).Nodup := by have := hs.ok.k; rw [List.map_map] at this; exact this
  exact inj_of_nodup ht ha hb e
def turnS (k : Int) (f : SE → SE) (l : List SE) : List SE := l.map fun z => if z.k = k then f z else z
theorem StAt.turn {h h' : Heap} {p m c : Nat} {room : Int} {l : List SE} (hs : StAt h p m c room l) {y : SE} (hy : y ∈ l) {f : SE → SE} (hf : ∀ z, f z = ⟨z.b, z.t, z.x, z.sv, z.sl, (f z).v, (f z).p⟩) (hF : Fr (fun i => i = y.b) h h') (hg : h'.get y.b = .cells (f y).cells 0) :
    StAt h' p m c room (turnS y.k f l) := by
  have hb : ∀ z, (f z).b = z.b := fun z => by rw [hf]
  have hent : ∀ z, (f z).ent = z.ent := fun z => by rw [hf]; rfl
  have hmi : ∀ z i, (f z).mine i ↔ z.mine i := fun z i => by rw [hf]; exact Iff.rfl
  have e1 : (turnS y.k f l).map SE.ent = l.map SE.ent := by
    unfold turnS
    rw [List.map_map]
    refine List.map_congr_left fun z _ => ?_
    show (if z.k = y.k then f z else z).ent = z.ent
    split
    · exact hent z
    · rfl
  have e2 : (turnS y.k f l).map SE.b = l.map SE.b := by
    unfold turnS
    rw [List.map_map]
    refine List.map_congr_left fun z _ => ?_
    show (if z.k = y.k then f z else z).b = z.b
    split
    · exact hb z
    · rfl
  have hym := hs.sp y hy y.b (.inl rfl)
  refine ⟨hF.lt hs.pl, hF.lt hs.ml, hs.pm, by rw [hF.get _ hs.pl (fun e => hym.1 e.symm)]; exact hs.gp, by rw [hF.get _ hs.ml (fun e => hym.2 e.symm), e1]; exact hs.gm, by rw [e1]; exact hs.ok, fun e he => ?_, fun e he i hi => ?_, by rw [e2]; exact hs.nd, fun e he e' he' => ?_⟩
  · obtain ⟨z, hz, rfl⟩ := List.mem_map.1 he
    show (if z.k = y.k then f z else z).At h'
    by_cases hk : z.k = y.k
    · have hzy : z = y := key_inj hs hz hy hk
      subst hzy
      rw [if_pos rfl]
      have ha := hs.ats z hz
      have hsv := hs.sv z hz z hz
      have h1 : (f z).x = z.x := by rw [hf]
      have h2 : (f z).sv = z.sv := by rw [hf]
      have h3 : (f z).sl = z.sl := by rw [hf]
      refine ⟨by rw [h1]; exact ha.hd, by rw [h1]; exact ha.hash, by rw [hb]; exact hg, by rw [hb]; exact hF.lt ha.lt, ?_, ?_, by rw [h1]; exact ha.lv, by rw [h1]; exact ha.ll⟩
      · rw [h1, h2]; exact ha.sv.keep hF fun b hb e => hsv.1 (by rw [← e]; exact hb)
      · rw [h1, h3]; exact ha.sl.keep hF fun b hb e => hsv.2 (by rw [← e]; exact hb)
    · rw [if_neg hk]
      have hsv := hs.sv z hz y hy
      refine (hs.ats z hz).keep hF fun i hi e => ?_
      rcases hi with h1 | h1 | h1
      · exact hk (by rw [inj_of_nodup hs.nd hz hy (by rw [← h1, e])])
      · exact hsv.1 (by rw [← e]; exact h1)
      · exact hsv.2 (by rw [← e]; exact h1)
  · obtain ⟨z, hz, rfl⟩ := List.mem_map.1 he
    refine hs.sp z hz i ?_
    have hi : (if z.k = y.k then f z else z).mine i := hi
    split at hi
    · exact (hmi z i).1 hi
    · exact hi
  · obtain ⟨z, hz, rfl⟩ := List.mem_map.1 he
    obtain ⟨z', hz', rfl⟩ := List.mem_map.1 he'
    have q1 : (if z.k = y.k then f z else z).sv = z.sv := by
      split
      · rw [hf]
      · rfl
    have q2 : (if z.k = y.k then f z else z).sl = z.sl := by
      split
      · rw [hf]
      · rfl
    have q3 : (if z'.k = y.k then f z' else z').b = z'.b := by
      split
      · rw [hf]
      · rfl
    rw [q1, q2, q3]
    exact hs.sv z hz z' hz'
theorem mine_turn {p m : Nat} {l : List SE} {k : Int} {f : SE → SE} (hf : ∀ z, f z = ⟨z.b, z.t, z.x, z.sv, z.sl, (f z).v, (f z).p⟩) {i : Nat} (hi : Mine p m (turnS k f l) i) : Mine p m l i := by
  rcases hi with h1 | h1 | ⟨e, he, h1⟩
  · exact .inl h1
  · exact .inr (.inl h1)
  · obtain ⟨z, hz, rfl⟩ := List.mem_map.1 he
    refine .inr (.inr ⟨z, hz, ?_⟩)
    have h1 : (if z.k = k then f z else z).mine i := h1
    split at h1
    · rw [hf] at h1; exact h1
    · exact h1
set_option maxHeartbeats 2000000 in
theorem with_ok {h : Heap} {p m c : Nat} {room k : Int} {l : List SE} {fd : FuncId} {cs : List Value} {R : RP} (hs : StAt h p m c room l) (hd : ∀ y ∈ l, y.k = k → Runs Try.prog T0 (.fn fd) (.pointer (some ⟨y.b, 0, none⟩) :: cs) h R (fun _ _ => False)) :
    Runs Try.prog T0 (.fn fn_zpbQ) [.pointer (some ⟨p, 0, none⟩), .int .i64 k, .func (.func fd) ⟨[]⟩ ⟨cs⟩] h
      (fun r h' => (∃ y ∈ l, y.k = k ∧ r = .int .i64 0 ∧ ∃ r', R r' h') ∨ (∀ y ∈ l, y.k ≠ k) ∧ r = .int .i64 10 ∧ h' = h) (fun _ _ => False) := by
  haveI : HGet h p _ := ⟨hs.gp⟩
  haveI : HGet h m _ := ⟨hs.gm⟩
  refine zpbQ_runs ?_
  refine stp ?_
  refine O.call' (snone_ok hs) (fun r h0 hr => ?_)
  obtain ⟨rfl, rfl⟩ := hr
  obtain ⟨pv, b, hb1, hb2, hlk⟩ := lookup_any (k := k) hs.ok (.pointer none)
  refine stp ?_
  cases b with
  | true =>
    obtain ⟨e, he, hk, rfl⟩ := hb1 rfl
    obtain ⟨y, hy, rfl⟩ := List.mem_map.1 he
    have hkey : y.k = k := hk
    refine stp ?_
    refine O.call' (all := .pointer (some ⟨y.b, 0, none⟩) :: cs) (hd y hy hkey) (fun r h1 hr => ?_)
    refine stp ?_
    exact .inl ⟨y, hy, hkey, rfl, r, hr⟩
  | false =>
    obtain ⟨hno, rfl⟩ := hb2 rfl
    refine stp ?_
    exact .inr ⟨fun y hy => hno _ (List.mem_map.2 ⟨y, hy, rfl⟩), rfl, rfl⟩
def pinF (b : Bool) (z : SE) : SE := { z with p := b }
def verF (z : SE) : SE := { z with v := true }
def withE (l : List SE) (k : Int) (e : Int) : Prop := (∃ y ∈ l, y.k = k) ∧ e = 0 ∨ (∀ y ∈ l, y.k ≠ k) ∧ e = 10
theorem turn_no {l : List SE} {k : Int} {f : SE → SE} (hn : ∀ y ∈ l, y.k ≠ k) : turnS k f l = l := by
  unfold turnS
  refine (List.map_congr_left fun z hz => ?_).trans (List.map_id l)
  show (if z.k = k then f z else z) = z
  rw [if_neg (hn z hz)]
set_option maxHeartbeats 2000000 in
theorem Pin_ok {h : Heap} {p m c : Nat} {room k : Int} {is : Bool} {l : List SE} (hs : StAt h p m c room l) :
    Runs Try.prog T0 (.fn fn_zhbQ) [.pointer (some ⟨p, 0, none⟩), .int .i64 k, .bool is] h
      (fun r h' => ∃ e, r = .int .i64 e ∧ withE l k e ∧ StAt h' p m c room (turnS k (pinF is) l) ∧ Fr (fun i => ∃ y ∈ l, i = y.b) h h' ∧ ∀ i, Mine p m (turnS k (pinF is) l) i → Mine p m l i) (fun _ _ => False) := by
  refine zhbQ_runs ?_
  refine stp ?_
  have gb : (h.push (.cells [.bool is] 0)).get h.n = .cells [.bool is] 0 := HGet.new.eq
  have F0 : Fr (fun _ => False) h (h.push (.cells [.bool is] 0)) := Fr.refl.push
  have n0 : (h.push (.cells [.bool is] 0)).n = h.n + 1 := rfl
  generalize h.push (.cells [.bool is] 0) = h0 at *
  have hs0 := hs.keep F0 fun _ _ => id
  refine O.call' (with_ok hs0 (k := k) (fd := fn_zibQ) (cs := [.pointer (some ⟨h.n, 0, none⟩)]) (R := fun _ h' => ∃ y ∈ l, y.k = k ∧ h' = h0.set y.b (.cells (pinF is y).cells 0)) fun y hy hk => ?_) (fun r h1 hr => ?_)
  · have ha := hs0.ats y hy
    haveI := l32 ha.hd.prev
    haveI := l32 ha.hd.vals
    haveI := l32 ha.hd.next
    haveI := l32 ha.hd.app
    haveI := l32 ha.hash
    haveI : HGet h0 y.b _ := ⟨ha.get⟩
    haveI : HGet h0 h.n _ := ⟨gb⟩
    refine zibQ_runs ?_
    refine stp ?_
    exact ⟨y, hy, hk, rfl⟩
  · refine stp ?_
    rcases hr with ⟨y, hy, hk, rfl, _, y', hy', hk', rfl⟩ | ⟨hno, rfl, rfl⟩
    · refine stp ?_
      subst hk'
      have fS : Fr (fun i => i = y'.b) h0 (h0.set y'.b (.cells (pinF is y').cells 0)) := Fr.refl.set fun _ => rfl
      exact ⟨0, rfl, .inl ⟨⟨y', hy', rfl⟩, rfl⟩, hs0.turn hy' (fun _ => rfl) fS (by rw [Heap.get_set, if_pos rfl]), (F0.mono fun _ _ e => e.elim).trans' (fS.mono fun i _ e => ⟨y', hy', e⟩), fun i hi => mine_turn (fun _ => rfl) hi⟩
    · refine stp ?_
      rw [turn_no hno]
      exact ⟨10, rfl, .inr ⟨hno, rfl⟩, hs0, F0.mono fun _ _ e => e.elim, fun i hi => hi⟩
set_option maxHeartbeats 2000000 in
theorem Verify_ok {h : Heap} {p m c : Nat} {room k : Int} {l : List SE} (hs : StAt h p m c room l) :
    Runs Try.prog T0 (.fn fn_zkbQ) [.pointer (some ⟨p, 0, none⟩), .int .i64 k] h
      (fun r h' => ∃ e, r = .int .i64 e ∧ withE l k e ∧ StAt h' p m c room (turnS k verF l) ∧ Fr (fun i => ∃ y ∈ l, i = y.b) h h' ∧ ∀ i, Mine p m (turnS k verF l) i → Mine p m l i) (fun _ _ => False) := by
  refine zkbQ_runs ?_
  refine stp ?_
  refine O.call' (with_ok hs (k := k) (fd := fn_zlbQ) (cs := []) (R := fun _ h' => ∃ y ∈ l, y.k = k ∧ h' = h.set y.b (.cells (verF y).cells 0)) fun y hy hk => ?_) (fun r h1 hr => ?_)
  · have ha := hs.ats y hy
    haveI := l32 ha.hd.prev
    haveI := l32 ha.hd.vals
    haveI := l32 ha.hd.next
    haveI := l32 ha.hd.app
    haveI := l32 ha.hash
    haveI : HGet h y.b _ := ⟨ha.get⟩
    refine zlbQ_runs ?_
    refine stp ?_
    exact ⟨y, hy, hk, rfl⟩
  · rcases hr with ⟨y, hy, hk, rfl, _, y', hy', hk', rfl⟩ | ⟨hno, rfl, rfl⟩
    · refine stp ?_
      subst hk'
      have fS : Fr (fun i => i = y'.b) h (h.set y'.b (.cells (verF y').cells 0)) := Fr.refl.set fun _ => rfl
      exact ⟨0, rfl, .inl ⟨⟨y', hy', rfl⟩, rfl⟩, hs.turn hy' (fun _ => rfl) fS (by rw [Heap.get_set, if_pos rfl]), fS.mono fun i _ e => ⟨y', hy', e⟩, fun i hi => mine_turn (fun _ => rfl) hi⟩
    · refine stp ?_
      rw [turn_no hno]
      exact ⟨10, rfl, .inr ⟨hno, rfl⟩, hs, Fr.refl, fun i hi => hi⟩
end Go.Proofs.Ytmhnddkpiefkhaa.A

namespace Go.Proofs.Ytmhnddkpiefkhaa.A
open Go Go.Vm
set_option maxRecDepth 10000
set_option linter.unusedVariables false
def remE (l d : List Ent) (k : Int) : List Ent := l.filter fun e => !((d.map Ent.t).contains e.t && !decide (e.k = k))
theorem remE_next {l d : List Ent} {c : Nat} {k : Int} {e : Ent} (ok : EntsOK l c) (he : e ∈ l) (hk : e.k ≠ k) : (remE l d k).filter (fun x => !decide (x.k = e.k)) = remE l (d ++ [e]) k := by
  unfold remE
  rw [List.filter_filter]
  refine List.filter_congr fun x hx => ?_
  by_cases hxe : x = e
  · subst hxe
    simp [hk]
  · have h1 : x.k ≠ e.k := fun h => hxe (inj_of_nodup ok.k hx he h)
    have h2 : x.t ≠ e.t := fun h => hxe (inj_of_nodup ok.t hx he h)
    simp [h1, h2]
theorem remE_stay {l d : List Ent} {c : Nat} {k : Int} {e : Ent} (ok : EntsOK l c) (he : e ∈ l) (hk : e.k = k) : remE l d k = remE l (d ++ [e]) k := by
  unfold remE
  refine List.filter_congr fun x hx => ?_
  by_cases hxe : x = e
  · subst hxe
    simp [hk]
  · have h2 : x.t ≠ e.t := fun h => hxe (inj_of_nodup ok.t hx he h)
    simp [h2]
theorem remE_end {l d : List Ent} {k : Int} (h : leftE (remE l d k) (d.map Ent.t) = []) : remE l d k = l.filter fun e => decide (e.k = k) := by
  unfold remE
  refine List.filter_congr fun x hx => ?_
  by_cases hk : x.k = k
  · simp [hk]
  · by_cases ht : x.t ∈ d.map Ent.t
    · have ht2 : (d.map Ent.t).contains x.t = true := by simpa using ht
      rw [ht2]; simp [hk]
    · exfalso
      have h1 : x ∈ remE l d k := List.mem_filter.2 ⟨hx, by
        have : (d.map Ent.t).contains x.t = false := by simpa using ht
        rw [this]; rfl⟩
      have h2 := List.filter_eq_nil_iff.1 h x h1
      have h3 : (d.map Ent.t).contains x.t = false := by simpa using ht
      rw [h3] at h2
      exact h2 rfl
theorem clear1_ok {h : Heap} {b : Nat} {n k : Int} {v : Value} (hg : h.get b = .cells [.int .i64 k] 0) : Runs Try.prog T0 (.fn fn_zebQ) [.int .i64 n, v, .pointer (some ⟨b, 0, none⟩)] h (fun r h' => r = .bool (!decide (n = k)) ∧ h' = h) (fun _ _ => False) := by
  haveI : HGet h b _ := ⟨hg⟩
  refine zebQ_runs ?_
  refine stp ?_
  exact ⟨rfl, rfl⟩
set_option maxHeartbeats 4000000 in
theorem DeleteFunc_ok {h : Heap} {b m c : Nat} {k : Int} {l : List Ent} (hg : h.get b = .cells [.int .i64 k] 0) (bl : b < h.n) (hm : h.get m = .map (ents l) c) (ml : m < h.n) (hbm : b ≠ m) (ok : EntsOK l c) :
    Runs Try.prog T0 (.fn fn_zrQ) [.map (some m), .func (.func fn_zebQ) ⟨[]⟩ ⟨[.pointer (some ⟨b, 0, none⟩)]⟩] h
      (fun r h' => h'.get m = .map (ents (l.filter fun e => decide (e.k = k))) c ∧ Fr (fun i => i = m) h h') (fun _ _ => False) := by
  haveI : HGet h b _ := ⟨hg⟩
  haveI : BLt b h := ⟨bl⟩
  haveI : HGet h m _ := ⟨hm⟩
  haveI : BLt m h := ⟨ml⟩
  refine zrQ_runs ?_
  refine stp ?_
  refine loop0 zrQ_l0_M (fun q hx => ∃ d, TellE l d ∧ q = l.length - d.length ∧ hx.get h.n = .mapIter (some m) c (d.map Ent.t) c ∧ hx.get m = .map (ents (remE l d k)) c ∧ h.n < hx.n ∧ Fr (fun i => i = m) h hx) ?_ l.length
    ⟨[], TellE.nil, rfl, HGet.new.eq, by rw [Heap.get_push, if_neg (by omega), hm]; congr 2; exact (List.filter_eq_self.2 fun _ _ => rfl).symm, by simp, Fr.refl.push⟩
  rintro m h' x4 x5 x8 x9 x10 x11 x12 x13 x14 x15 x16 x17 x18 ⟨d, ht, rfl, gi, gm, hn, hF⟩
  have hbx : h'.get b = .cells [.int .i64 k] 0 := by rw [hF.get _ bl hbm]; exact hg
  have okr : EntsOK (remE l d k) c := ok.filter _
  haveI : HGet h' b _ := ⟨hbx⟩
  haveI : HGet h' h.n _ := ⟨gi⟩
  haveI : HGet h' m _ := ⟨gm⟩
  haveI : BLt h.n h' := ⟨hn⟩
  haveI : BLt b h' := ⟨by omega⟩
  haveI : BNe m h.n := ⟨by omega⟩
  haveI : BNe b h.n := ⟨by omega⟩
  refine stp ?_
  refine O.nextMap (l := remE l d k) (c := c) (m := m) (seen := d.map Ent.t) okr (fun hend => ?_) (fun e he => ?_)
  · refine stp ?_
    exact ⟨by rw [gm, remE_end hend], hF⟩
  · have her := (List.mem_filter.1 he).1
    have hel := (List.mem_filter.1 her).1
    have heL : e ∈ leftE l (d.map Ent.t) := List.mem_filter.2 ⟨hel, (List.mem_filter.1 he).2⟩
    have ht2 := ht.next heL
    have hlen := tell_len ht2
    rw [List.length_append, List.length_singleton] at hlen
    have hFs : Fr (fun i => i = m) h (h'.set h.n (.mapIter (some m) c (d.map Ent.t ++ [e.t]) c)) := hF.set fun hh => absurd hh (by omega)
    refine stp ?_
    refine O.how (XOp.entryMap (m := m) (c := c) (l := remE l d k) (seen := d.map Ent.t) (x := e) okr her) ?_
    refine stp ?_
    refine O.call' (clear1_ok (k := k) (by rw [Heap.get_set, if_neg (by omega)]; exact hbx)) (fun r h3 hr => ?_)
    obtain ⟨rfl, rfl⟩ := hr
    refine stp ?_
    refine C.ifN (fun hne => ?_) (fun hek => ?_)
    · refine stp ?_
      refine O.by0 (XOp.deleteYes (l := remE l d k) (c := c) (e := e) her okr rfl).eq rfl ?_
      refine stp ?_
      refine loop0a (l.length - (d.length + 1)) (by omega) ⟨d ++ [e], ht2, by simp, ?_, ?_, by simpa using hn, hFs.set fun _ => rfl⟩
      · rw [Heap.get_set, if_neg (by omega), Heap.get_set, if_pos rfl, List.map_append]
        rfl
      · rw [Heap.get_set, if_pos rfl, remE_next ok hel hne]
    · refine stp ?_
      refine loop0a (l.length - (d.length + 1)) (by omega) ⟨d ++ [e], ht2, by simp, ?_, ?_, by simpa using hn, hFs⟩
      · rw [Heap.get_set, if_pos rfl, List.map_append]
        rfl
      · rw [Heap.get_set, if_neg (by omega), gm, remE_stay ok hel hek]
theorem StAt.less {h h' : Heap} {p m c : Nat} {room : Int} {l : List SE} (hs : StAt h p m c room l) (q : SE → Bool) (hf : Fr (fun i => i = m) h h') (hg : h'.get m = .map (ents ((l.filter q).map SE.ent)) c) : StAt h' p m c room (l.filter q) := by
  have hm : ∀ e ∈ l.filter q, e ∈ l := fun e he => (List.mem_filter.1 he).1
  refine ⟨hf.lt hs.pl, hf.lt hs.ml, hs.pm, by rw [hf.get _ hs.pl hs.pm]; exact hs.gp, hg, ⟨?_, ?_, fun e he => ?_⟩, fun e he => (hs.ats e (hm e he)).keep hf fun i hi => (hs.sp e (hm e he) i hi).2, fun e he => hs.sp e (hm e he), hs.nd.sublist ((List.filter_sublist).map _), fun e he e' he' => hs.sv e (hm e he) e' (hm e' he')⟩
  · exact hs.ok.k.sublist (((List.filter_sublist).map _).map _)
  · exact hs.ok.t.sublist (((List.filter_sublist).map _).map _)
  · obtain ⟨s, hs2, rfl⟩ := List.mem_map.1 he
    exact hs.ok.lt _ (List.mem_map.2 ⟨s, hm s hs2, rfl⟩)
def onlyS (k : Int) (l : List SE) : List SE := l.filter fun z => decide (z.k = k)
set_option maxHeartbeats 2000000 in
theorem Clear_ok {h : Heap} {p m c : Nat} {room k : Int} {l : List SE} (hs : StAt h p m c room l) :
    Runs Try.prog T0 (.fn fn_zdbQ) [.pointer (some ⟨p, 0, none⟩), .int .i64 k] h
      (fun r h' => StAt h' p m c room (onlyS k l) ∧ Fr (fun i => i = m) h h' ∧ ∀ i, Mine p m (onlyS k l) i → Mine p m l i) (fun _ _ => False) := by
  refine zdbQ_runs ?_
  refine stp ?_
  have gb : (h.push (.cells [.int .i64 k] 0)).get h.n = .cells [.int .i64 k] 0 := HGet.new.eq
  have F0 : Fr (fun _ => False) h (h.push (.cells [.int .i64 k] 0)) := Fr.refl.push
  have n0 : (h.push (.cells [.int .i64 k] 0)).n = h.n + 1 := rfl
  generalize h.push (.cells [.int .i64 k] 0) = h0 at *
  have hs0 := hs.keep F0 fun _ _ => id
  haveI : HGet h0 p _ := ⟨hs0.gp⟩
  refine O.call' (snone_ok hs0) (fun r h0 hr => ?_)
  obtain ⟨rfl, rfl⟩ := hr
  refine stp ?_
  refine O.call' (DeleteFunc_ok (k := k) (l := l.map SE.ent) (c := c) gb (by omega) hs0.gm hs0.ml (by have := hs.ml; omega) hs0.ok) (fun r h1 hr => ?_)
  obtain ⟨g1, f1⟩ := hr
  refine stp ?_
  have e3 : (l.map SE.ent).filter (fun e => decide (e.k = k)) = (onlyS k l).map SE.ent := by
    unfold onlyS
    rw [List.filter_map]
    rfl
  rw [e3] at g1
  refine ⟨hs0.less _ f1 g1, (F0.mono fun _ _ e => e.elim).trans' f1, fun i hi => ?_⟩
  rcases hi with h1 | h1 | ⟨e, he, h1⟩
  · exact .inl h1
  · exact .inr (.inl h1)
  · exact .inr (.inr ⟨e, (List.mem_filter.1 he).1, h1⟩)
end Go.Proofs.Ytmhnddkpiefkhaa.A

namespace Go.Proofs.Ytmhnddkpiefkhaa.A
open Go Go.Vm
set_option maxRecDepth 10000
set_option linter.unusedVariables false
structure KK where
  k : Int
  v : Bool
  p : Bool
  deriving DecidableEq
abbrev KK.cells (e : KK) : List Value := [.int .i64 e.k, .bool e.v, .bool e.p]
def SE.kk (e : SE) : KK := ⟨e.k, e.v, e.p⟩
def kkcells (l : List KK) : List Value := l.flatMap KK.cells
theorem kkcells_append (l m : List KK) : kkcells (l ++ m) = kkcells l ++ kkcells m := by simp [kkcells]
theorem one_kk {h : Heap} {e : KK} {es : Nat} : newCells (h.push (.cells e.cells es)) 3 [.int .i64 0, .bool false, .bool false] false (.slice (some ⟨h.n, 0, none⟩) 1 1) = some (1, e.cells) :=
  (Rd.mk (size := 3) (n := 1) (cap := 1) (sp := none) (o := 0) (b := h.n) (c := e.cells) (by simp) (by rw [cellsAt_of (c := e.cells) (by rw [Heap.get_push, if_pos rfl]; rfl) (by simp)]; rfl)).new _
set_option maxHeartbeats 8000000 in
theorem List_ok {h : Heap} {p m c : Nat} {room : Int} {l : List SE} (hs : StAt h p m c room l) (hlen : l.length < 100000) :
    Runs Try.prog T0 (.fn fn_zgbQ) [.pointer (some ⟨p, 0, none⟩)] h
      (fun r h' => ∃ L : List SE, L.Perm l ∧ (L.map SE.k).Pairwise (· ≤ ·) ∧ Own h' 3 r (kkcells (L.map SE.kk)) (L.map SE.kk).length ∧ (∀ i, ownedBy r i → h.n ≤ i) ∧ Fr (fun _ => False) h h') (fun _ _ => False) := by
  refine zgbQ_runs ?_
  refine stp ?_
  refine O.call' (snone_ok hs) (fun r h hr => ?_)
  obtain ⟨rfl, rfl⟩ := hr
  refine stp ?_
  refine O.call' (rising_ok hs.gp hs.pl hs.gm hs.ml hs.ok (by simpa using hlen)) (fun r h1 hr => ?_)
  obtain ⟨R, hR, hsort, ho, hnew, f1⟩ := hr
  have hs1 := hs.keep f1 fun _ _ => id
  obtain ⟨a, cap, rfl, hl1, hc⟩ := id ho.rd
  have hRl : R.length = l.length := by have := hR.length_eq; simpa using this
  refine stp ?_
  have hpn : ∀ y ∈ l, ∃ i, i < R.length ∧ R.getD i 0 = y.k := fun y hy => by
    have h1 : y.k ∈ R := hR.mem_iff.2 (List.mem_map.2 ⟨y.ent, List.mem_map.2 ⟨y, hy, rfl⟩, rfl⟩)
    obtain ⟨i, hi, he⟩ := List.getElem_of_mem h1
    exact ⟨i, hi, by simp [List.getD, hi, he]⟩
  refine loop2 zgbQ_l0_M 2 11 (fun q v2 v11 hx => ∃ (i : Nat) (L : List SE), i ≤ R.length ∧ q = R.length - i ∧ v11 = .int .i64 i ∧ (∀ y ∈ L, y ∈ l) ∧ L.map SE.k = R.take i ∧ Own hx 3 v2 (kkcells (L.map SE.kk)) (L.map SE.kk).length ∧ (∀ i, ownedBy v2 i → h1.n ≤ i) ∧ Fr (fun _ => False) h1 hx) ?_ R.length
    ⟨0, [], by omega, rfl, rfl, by simp, by simp, .none, fun i hi => hi.elim, Fr.refl⟩
  rintro m v2 v11 h' x4 x5 x12 x13 x14 x15 x16 x17 x18 x19 x20 x21 x22 x23 x24 x25 x26 x27 x28 x29 x30 x31 x32 x33 x34 ⟨i, L, hi, rfl, rfl, hLl, hLk, hoL, hnL, hF⟩
  refine stp ?_
  refine C.if (fun hlt => ?_) (fun hge => ?_)
  · have hlt : i < R.length := by omega
    obtain ⟨b, o, sp, rfl, hb, hcc⟩ := hc (by omega)
    haveI : Cell h' b (o + i) (.int .i64 (R.getD i 0)) := ncell_at (n := R.length) (by rw [cellsAt_keep hF hb id]; exact hcc) rfl hlt
    have hsx := hs1.keep hF fun _ _ => id
    have hki : R.getD i 0 ∈ R := by
      rw [List.getD_eq_getElem?_getD, List.getElem?_eq_getElem hlt]
      exact List.getElem_mem hlt
    obtain ⟨e, he, hek⟩ := List.mem_map.1 (hR.mem_iff.1 hki)
    obtain ⟨y, hy, rfl⟩ := List.mem_map.1 he
    have hyk : y.k = R.getD i 0 := hek
    have ha := hsx.ats y hy
    haveI := l32 ha.hd.prev
    haveI := l32 ha.hd.vals
    haveI := l32 ha.hd.next
    haveI := l32 ha.hd.app
    haveI := l32 ha.hash
    haveI : HGet h' p _ := ⟨hsx.gp⟩
    haveI : HGet h' m _ := ⟨hsx.gm⟩
    haveI : HGet h' y.b _ := ⟨ha.get⟩
    refine stp ?_
    rw [← hyk]
    refine O.how (v := .pointer (some ⟨y.b, 0, none⟩)) (XOp.lookupYes1 (l := l.map SE.ent) (c := c) (e := y.ent) he hsx.ok rfl) ?_
    refine stp ?_
    have hLlen : L.length = i := by have := congrArg List.length hLk; simp at this; omega
    refine D.oneS ?_
    refine stp ?_
    refine D.append (d := KK.cells (SE.kk y)) (hoL.keep (S := fun _ => False) Fr.refl.push fun _ _ => id) (one_kk (e := SE.kk y)) rfl rfl (by omega) (by omega) (by rw [List.length_map]; omega) (fun v6 h6 ho6 hf6 hn6 => ?_)
    have q6 := hf6.n
    have qF := hF.n
    simp only [Heap.n_push] at q6 hn6
    refine stp ?_
    refine loop2a 2 11 (R.length - (i + 1)) (by omega) ⟨i + 1, L ++ [y], by omega, rfl, rfl, fun z hz => ?_, ?_, ?_, fun j hj => ?_, hF.trans ((Fr.refl.push).trans' (S := ownedBy _) hf6) fun j hj e => by have := hnL j e; omega⟩
    · rcases List.mem_append.1 hz with h1 | h1
      · exact hLl z h1
      · rw [List.mem_singleton.1 h1]; exact hy
    · rw [List.map_append, hLk, List.take_add_one, List.getElem?_eq_getElem hlt]
      have : R[i] = y.k := by rw [hyk, List.getD_eq_getElem?_getD, List.getElem?_eq_getElem hlt]; rfl
      rw [this]
      rfl
    · rw [List.map_append, kkcells_append, List.length_append]
      have e1 : kkcells ([y].map SE.kk) = KK.cells (SE.kk y) := by simp [kkcells]
      rw [e1]
      exact ho6
    · rcases hn6 j hj with h7 | h7
      · exact hnL j h7
      · omega
  · refine stp ?_
    obtain rfl : i = R.length := by omega
    rw [List.take_length] at hLk
    refine ⟨L, ?_, by rw [hLk]; exact hsort, hoL, fun j hj => by have := hnL j hj; have := f1.n; omega, f1.trans' hF⟩
    have hkn : (l.map SE.k).Nodup := by have := hs.ok.k; rw [List.map_map] at this; exact this
    have hRk : R.Perm (l.map SE.k) := by rw [List.map_map] at hR; exact hR
    have hLn : (L.map SE.k).Nodup := by rw [hLk]; exact (hRk.nodup_iff).2 hkn
    refine perm_of_same (nodup_of_map _ hLn) (nodup_of_map _ hkn) fun z => ⟨hLl z, fun hz => ?_⟩
    have h1 : z.k ∈ L.map SE.k := by rw [hLk]; exact hRk.mem_iff.2 (List.mem_map.2 ⟨z, hz, rfl⟩)
    obtain ⟨z', hz', he⟩ := List.mem_map.1 h1
    have : z' = z := inj_of_nodup hkn (hLl z' hz') hz he
    rwa [this] at hz'
end Go.Proofs.Ytmhnddkpiefkhaa.A

namespace Go.Proofs.Ytmhnddkpiefkhaa.A
open Go Go.Vm
set_option maxRecDepth 10000
set_option linter.unusedVariables false
def pickS (x n : Int) : Int := if n ≤ 0 then 0 else x % n
theorem Pick_ok {h : Heap} {x n : Int} (hn : n ≤ 9223372036854775807) : Runs Try.prog T0 (.fn fn_zhQ) [.int .i64 x, .int .i64 n] h (fun r h' => r = .int .i64 (pickS x n) ∧ h' = h) (fun _ _ => False) := by
  refine zhQ_runs ?_
  refine stp ?_
  unfold pickS
  refine C.if (fun h0 => ?_) (fun h0 => ?_)
  · refine stp ?_
    rw [if_pos h0]
    exact ⟨rfl, rfl⟩
  · refine stp ?_
    refine O.how (XOp.remI (by omega)) ?_
    have h1 := Int.tmod_lt_of_pos x (show 0 < n by omega)
    have h2 : -n < x.tmod n := by
      have := Int.lt_tmod_of_pos x (show 0 < n by omega)
      omega
    have e := Int.tmod_eq_emod (a := x) (b := n)
    have p1 := Int.emod_nonneg x (show n ≠ 0 by omega)
    have p2 := Int.emod_lt_of_pos x (show 0 < n by omega)
    have p3 : (n.natAbs : Int) = n := Int.natAbs_of_nonneg (by omega)
    refine stp ?_
    rw [if_neg h0]
    refine C.if (fun h3 => ?_) (fun h3 => ?_)
    · refine stp ?_
      refine ⟨?_, rfl⟩
      congr 1
      split at e <;> omega
    · refine stp ?_
      refine ⟨?_, rfl⟩
      congr 1
      split at e <;> omega
end Go.Proofs.Ytmhnddkpiefkhaa.A

namespace Go.Proofs.Ytmhnddkpiefkhaa.A
open Go Go.Vm
set_option maxRecDepth 10000
set_option linter.unusedVariables false
instance : DecidableEq Vote := fun ⟨a, s⟩ ⟨b, t⟩ => if h : a = b ∧ s = t then .isTrue (by rw [h.1, h.2]) else .isFalse (fun e => h (by injection e with e1 e2; exact ⟨e1, e2⟩))
theorem take_next {α : Type} {l m : List α} {z : α} {k : Nat} (h1 : k < l.length) (h2 : k < m.length) : l.take (k + 1) = m.take (k + 1) ↔ l.take k = m.take k ∧ l.getD k z = m.getD k z := by
  have g1 : l.getD k z = l[k] := by simp [List.getD_eq_getElem?_getD, h1]
  have g2 : m.getD k z = m[k] := by simp [List.getD_eq_getElem?_getD, h2]
  rw [List.take_succ_eq_append_getElem h1, List.take_succ_eq_append_getElem h2, g1, g2]
  constructor
  · intro h
    have h3 := List.append_inj h (by simp; omega)
    exact ⟨h3.1, by simpa using h3.2⟩
  · rintro ⟨e1, e2⟩
    rw [e1, e2]
end Go.Proofs.Ytmhnddkpiefkhaa.A

namespace Go.Proofs.Ytmhnddkpiefkhaa.A
open Go Go.Vm
set_option maxRecDepth 10000
set_option linter.unusedVariables false
theorem u8nat {n : Nat} (h : n < 256) : (UInt8.ofNat n).toNat = n := by
  rw [UInt8.toNat_ofNat']
  exact Nat.mod_eq_of_lt h
end Go.Proofs.Ytmhnddkpiefkhaa.A

namespace Go.Proofs.Ytmhnddkpiefkhaa.A
open Go Go.Vm
set_option maxRecDepth 10000
set_option linter.unusedVariables false
theorem fits_bytes {h : Heap} {m : Nat} {te : TypeId} {c : List Value} {len : Nat} (hu : Try.prog.underlying te = some (.int .u8)) (hs : Try.prog.cellsOf te = 1) (hl : c.length = len * Try.prog.cellsOf te) (hall : ∀ i, i < len → Fits Try.prog h (m + 1) te ((c.drop (i * Try.prog.cellsOf te)).take (Try.prog.cellsOf te))) : ∃ bs : List UInt8, c = bcells bs ∧ bs.length = len := by
  rw [hs, Nat.mul_one] at hl
  induction c generalizing len with
  | nil => exact ⟨[], rfl, by simpa using hl⟩
  | cons v c ih =>
    cases len with
    | zero => simp at hl
    | succ len =>
      have h0 := hall 0 (by omega)
      rw [hs] at h0
      unfold Fits at h0
      rw [hu] at h0
      simp only [Nat.zero_mul, List.drop_zero, List.take_succ_cons, List.take_zero] at h0
      obtain ⟨x, hx, hwf⟩ := h0
      injection hx with hx _
      obtain ⟨bs, rfl, hb⟩ := ih (len := len) (by simpa using hl) fun i hi => by
        have := hall (i + 1) (by omega)
        rw [hs] at this ⊢
        simpa using this
      have hr : 0 ≤ x ∧ x ≤ 255 := by
        simp [Lit.wf, IntKind.min, IntKind.max, IntKind.signed, IntKind.bits] at hwf
        omega
      refine ⟨UInt8.ofNat x.toNat :: bs, ?_, by simp [hb]⟩
      rw [hx]
      show Value.int .u8 x :: bcells bs = Value.int .u8 ((UInt8.ofNat x.toNat).toNat : Nat) :: bcells bs
      rw [u8nat (by omega)]
      congr 2
      omega
end Go.Proofs.Ytmhnddkpiefkhaa.A

namespace Go.Proofs.Ytmhnddkpiefkhaa.A
open Go Go.Vm
set_option maxRecDepth 10000
set_option linter.unusedVariables false
theorem fits_flat32 {h : Heap} {m : Nat} {t te : TypeId} {c : List Value} (ht : Try.prog.underlying t = some (.array 32 te)) (hu : Try.prog.underlying te = some (.int .u8)) (hs : Try.prog.cellsOf te = 1) (hs32 : Try.prog.cellsOf t = 32) (hv : Fits Try.prog h (m + 2) t c) : ∃ bs : List UInt8, c = bcells bs ∧ bs.length = 32 := by
  unfold Fits at hv
  rw [ht] at hv
  exact fits_bytes hu hs (by rw [hv.1, hs32, hs]) hv.2
theorem fits_header {h : Heap} {m : Nat} {t ts ti th tb : TypeId} {c : List Value} (f0 : fieldAt Try.prog t 0 = some (0, ts)) (f1 : fieldAt Try.prog t 1 = some (1, ti)) (f2 : fieldAt Try.prog t 2 = some (2, ti)) (f3 : fieldAt Try.prog t 3 = some (3, th)) (f4 : fieldAt Try.prog t 4 = some (35, th)) (f5 : fieldAt Try.prog t 5 = some (67, th)) (f6 : fieldAt Try.prog t 6 = some (99, th))
    (us : Try.prog.underlying ts = some .string) (ui : Try.prog.underlying ti = some (.int .i64)) (uh : Try.prog.underlying th = some (.array 32 tb)) (ub : Try.prog.underlying tb = some (.int .u8)) (c0 : Try.prog.cellsOf ts = 1) (c1 : Try.prog.cellsOf ti = 1) (c3 : Try.prog.cellsOf th = 32) (cb : Try.prog.cellsOf tb = 1) (ct : Try.prog.cellsOf t = 131)
    (hv : Fits Try.prog h (m + 3) t c) : ∃ x : Hd, x.ok ∧ (-9223372036854775808 ≤ x.height ∧ x.height ≤ 9223372036854775807) ∧ (-9223372036854775808 ≤ x.time ∧ x.time ≤ 9223372036854775807) ∧ c = x.cells := by
  have hl := hv.len f0
  rw [ct] at hl
  obtain ⟨s, g0, _⟩ := (hv.field f0).str us
  obtain ⟨a, g1, w1⟩ := (hv.field f1).int ui
  obtain ⟨b, g2, w2⟩ := (hv.field f2).int ui
  obtain ⟨l3, g3, n3⟩ := fits_flat32 uh ub cb c3 (hv.field f3)
  obtain ⟨l4, g4, n4⟩ := fits_flat32 uh ub cb c3 (hv.field f4)
  obtain ⟨l5, g5, n5⟩ := fits_flat32 uh ub cb c3 (hv.field f5)
  obtain ⟨l6, g6, n6⟩ := fits_flat32 uh ub cb c3 (hv.field f6)
  rw [c0] at g0
  rw [c1] at g1 g2
  rw [c3] at g3 g4 g5 g6
  refine ⟨⟨s.data.toList, a, b, l3, l4, l5, l6⟩, ⟨n3, n4, n5, n6⟩, wf_i64 w1, wf_i64 w2, ?_⟩
  rw [← List.drop_zero (l := c), vsplit c 0 1, g0, vsplit c (0 + 1) 1, g1, vsplit c (0 + 1 + 1) 1, g2, vsplit c (0 + 1 + 1 + 1) 32, g3, vsplit c (0 + 1 + 1 + 1 + 32) 32, g4, vsplit c (0 + 1 + 1 + 1 + 32 + 32) 32, g5, vsplit c (0 + 1 + 1 + 1 + 32 + 32 + 32) 32, g6,
    show c.drop (0 + 1 + 1 + 1 + 32 + 32 + 32 + 32) = [] from List.drop_eq_nil_of_le (by omega), List.append_nil]
  rfl
end Go.Proofs.Ytmhnddkpiefkhaa.A

namespace Go.Proofs.Ytmhnddkpiefkhaa.A
open Go Go.Vm
set_option maxRecDepth 10000
set_option linter.unusedVariables false
theorem four {l : List UInt8} (h : l.length = 4) : ∃ a b c d, l = [a, b, c, d] := by
  match l, h with
  | [a, b, c, d], _ => exact ⟨a, b, c, d, rfl⟩
end Go.Proofs.Ytmhnddkpiefkhaa.A

namespace Go.Proofs.Ytmhnddkpiefkhaa.A
open Go Go.Vm
set_option maxRecDepth 100000
set_option linter.unusedVariables false
theorem vals_cells_fit {h : Heap} {m : Nat} {te tk tb ti : TypeId} (f0 : fieldAt Try.prog te 0 = some (0, tk)) (f1 : fieldAt Try.prog te 1 = some (4, ti)) (uk : Try.prog.underlying tk = some (.array 4 tb)) (ub : Try.prog.underlying tb = some (.int .u8)) (ui : Try.prog.underlying ti = some (.int .i64))
    (ce : Try.prog.cellsOf te = 5) (ck : Try.prog.cellsOf tk = 4) (cb : Try.prog.cellsOf tb = 1) (ci : Try.prog.cellsOf ti = 1) : ∀ (len : Nat) (c : List Value), c.length = len * 5 → (∀ i, i < len → Fits Try.prog h (m + 3) te ((c.drop (i * 5)).take 5)) →
    ∃ l : List Val, c = vcells l ∧ l.length = len ∧ ∀ v ∈ l, -9223372036854775808 ≤ v.p ∧ v.p ≤ 9223372036854775807
  | 0, c, hl, _ => ⟨[], by rw [vcells_nil]; simpa using hl, rfl, fun v hv => by cases hv⟩
  | len + 1, c, hl, hall => by
    have h0 := hall 0 (by omega)
    rw [Nat.zero_mul, List.drop_zero] at h0
    have hk := h0.field f0
    obtain ⟨p, g1, w1⟩ := (h0.field f1).int ui
    rw [ck] at hk
    rw [ci] at g1
    rw [List.drop_zero] at hk
    have h4 : (c.take 5).take 4 = c.take 4 := by rw [List.take_take]; rfl
    rw [h4] at hk
    have hb : ∃ bs : List UInt8, c.take 4 = bcells bs ∧ bs.length = 4 := by
      unfold Fits at hk
      rw [uk] at hk
      exact fits_bytes ub cb (by rw [hk.1, ck, cb]) hk.2
    obtain ⟨bs, hb1, hb2⟩ := hb
    obtain ⟨a0, a1, a2, a3, rfl⟩ := four hb2
    obtain ⟨l, e1, e2, e3⟩ := vals_cells_fit f0 f1 uk ub ui ce ck cb ci len (c.drop 5) (by rw [List.length_drop]; omega) fun i hi => by
      have := hall (i + 1) (by omega)
      rw [List.drop_drop]
      rw [show (i + 1) * 5 = 5 + i * 5 from by omega] at this
      exact this
    refine ⟨⟨a0, a1, a2, a3, p⟩ :: l, ?_, by simp [e2], fun v hv => ?_⟩
    · rw [vcells_cons, ← e1]
      have e5 : c = c.take 5 ++ c.drop 5 := (List.take_append_drop 5 c).symm
      have e6 : c.take 5 = c.take 4 ++ ((c.take 5).drop 4).take 1 := by
        have h1 : ((c.take 5).drop 4).take 1 = (c.take 5).drop 4 := List.take_of_length_le (by rw [List.length_drop, List.length_take]; omega)
        rw [h1, ← h4, List.take_append_drop]
      conv => lhs; rw [e5, e6, hb1, g1]
      rfl
    · rcases List.mem_cons.1 hv with rfl | hv
      · exact wf_i64 w1
      · exact e3 v hv
end Go.Proofs.Ytmhnddkpiefkhaa.A

namespace Go.Proofs.Ytmhnddkpiefkhaa.A
open Go Go.Vm
set_option maxRecDepth 100000
set_option linter.unusedVariables false
theorem wf_u64 {x : Int} (h : (Lit.int .u64 x).wf = true) : 0 ≤ x ∧ x ≤ 18446744073709551615 := by
  simp [Lit.wf, IntKind.min, IntKind.max, IntKind.signed, IntKind.bits] at h
  omega
theorem votes_cells_fit {h : Heap} {m : Nat} {te ti tu : TypeId} (f0 : fieldAt Try.prog te 0 = some (0, ti)) (f1 : fieldAt Try.prog te 1 = some (1, tu)) (ui : Try.prog.underlying ti = some (.int .i64)) (uu : Try.prog.underlying tu = some (.int .u64))
    (ce : Try.prog.cellsOf te = 2) (ci : Try.prog.cellsOf ti = 1) (cu : Try.prog.cellsOf tu = 1) : ∀ (len : Nat) (c : List Value), c.length = len * 2 → (∀ i, i < len → Fits Try.prog h (m + 2) te ((c.drop (i * 2)).take 2)) →
    ∃ l : List Vote, c = tcells l ∧ l.length = len
  | 0, c, hl, _ => ⟨[], by rw [tcells_nil]; simpa using hl, rfl⟩
  | len + 1, c, hl, hall => by
    have h0 := hall 0 (by omega)
    rw [Nat.zero_mul, List.drop_zero] at h0
    obtain ⟨a, g0, w0⟩ := (h0.field f0).int ui
    obtain ⟨p, g1, w1⟩ := (h0.field f1).int uu
    rw [ci] at g0
    rw [cu] at g1
    obtain ⟨l, e1, e2⟩ := votes_cells_fit f0 f1 ui uu ce ci cu len (c.drop 2) (by rw [List.length_drop]; omega) fun i hi => by
      have := hall (i + 1) (by omega)
      rw [List.drop_drop]
      rw [show (i + 1) * 2 = 2 + i * 2 from by omega] at this
      exact this
    have hp := wf_u64 w1
    refine ⟨⟨a, p.toNat⟩ :: l, ?_, by simp [e2]⟩
    rw [tcells_cons, ← e1]
    match c, hl with
    | [], hl => simp at hl
    | [u], hl => simp at hl; omega
    | u :: w :: c, hl =>
      have g0 : [u] = [Value.int .i64 a] := g0
      have g1 : [w] = [Value.int .u64 p] := g1
      have g0 : u = Value.int .i64 a := by injection g0
      have g1 : w = Value.int .u64 p := by injection g1
      rw [g0, g1]
      show _ = [Value.int .i64 a, Value.int .u64 ((p.toNat : Nat) : Int)] ++ c
      rw [show ((p.toNat : Nat) : Int) = p from by omega]
      rfl
theorem fits_votes {h : Heap} {m : Nat} {t te ti tu : TypeId} {cs : List Value} (ht : Try.prog.underlying t = some (.slice te)) (f0 : fieldAt Try.prog te 0 = some (0, ti)) (f1 : fieldAt Try.prog te 1 = some (1, tu)) (ui : Try.prog.underlying ti = some (.int .i64)) (uu : Try.prog.underlying tu = some (.int .u64))
    (ce : Try.prog.cellsOf te = 2) (ci : Try.prog.cellsOf ti = 1) (cu : Try.prog.cellsOf tu = 1) (hv : Fits Try.prog h (m + 3) t cs) : ∃ (v : Value) (l : List Vote), cs = [v] ∧ Rd h 2 v (tcells l) l.length := by
  unfold Fits at hv
  rw [ht] at hv
  rcases hv with hv | ⟨b, len, cap, c, hv, hb, hlc, hcap, hro, hl, hall⟩
  · exact ⟨_, [], hv, Rd.nil⟩
  · rw [ce] at hl hall
    obtain ⟨l, rfl, e2⟩ := votes_cells_fit f0 f1 ui uu ce ci cu len c hl hall
    refine ⟨_, l, hv, ⟨_, _, by rw [e2], tcells_len l, fun hn => ⟨b, 0, none, rfl, hb, ?_⟩⟩⟩
    rw [cellsAt_of (c := tcells l) (by rw [hro (by omega)]; rfl) (by rw [tcells_len]; omega), List.drop_zero, List.take_of_length_le (by rw [tcells_len]; omega)]
theorem fits_vals1 {h : Heap} {m : Nat} {t te tk tb ti : TypeId} {cs : List Value} (ht : Try.prog.underlying t = some (.slice te)) (f0 : fieldAt Try.prog te 0 = some (0, tk)) (f1 : fieldAt Try.prog te 1 = some (4, ti)) (uk : Try.prog.underlying tk = some (.array 4 tb)) (ub : Try.prog.underlying tb = some (.int .u8)) (ui : Try.prog.underlying ti = some (.int .i64))
    (ce : Try.prog.cellsOf te = 5) (ck : Try.prog.cellsOf tk = 4) (cb : Try.prog.cellsOf tb = 1) (ci : Try.prog.cellsOf ti = 1) (hv : Fits Try.prog h (m + 4) t cs) : ∃ (v : Value) (l : List Val), cs = [v] ∧ Rd h 5 v (vcells l) l.length := by
  unfold Fits at hv
  rw [ht] at hv
  rcases hv with hv | ⟨b, len, cap, c, hv, hb, hlc, hcap, hro, hl, hall⟩
  · exact ⟨_, [], hv, Rd.nil⟩
  · rw [ce] at hl hall
    obtain ⟨l, rfl, e2, e3⟩ := vals_cells_fit f0 f1 uk ub ui ce ck cb ci len c hl hall
    refine ⟨_, l, hv, ⟨_, _, by rw [e2], vcells_len l, fun hn => ⟨b, 0, none, rfl, hb, ?_⟩⟩⟩
    rw [cellsAt_of (c := vcells l) (by rw [hro (by omega)]; rfl) (by rw [vcells_len]; omega), List.drop_zero, List.take_of_length_le (by rw [vcells_len]; omega)]
theorem fits_bkM {h : Heap} {n : Nat} {cs : List Value} (hv : Fits Try.prog h (n + 6) 36 cs) : ∃ (x : Bk) (sv sl : Value), cs = x.cells sv sl ∧ BkRd h x sv sl := by
  have b0 : fieldAt Try.prog 36 0 = some (0, 30) := by kernel_rfl
  have b1 : fieldAt Try.prog 36 1 = some (131, 33) := by kernel_rfl
  have b2 : fieldAt Try.prog 36 2 = some (165, 34) := by kernel_rfl
  have m0 : fieldAt Try.prog 33 0 = some (0, 3) := by kernel_rfl
  have m1 : fieldAt Try.prog 33 1 = some (1, 28) := by kernel_rfl
  have m2 : fieldAt Try.prog 33 2 = some (33, 31) := by kernel_rfl
  have v0 : fieldAt Try.prog 117 0 = some (0, 3) := by kernel_rfl
  have v1 : fieldAt Try.prog 117 1 = some (1, 115) := by kernel_rfl
  have l0 : fieldAt Try.prog 113 0 = some (0, 111) := by kernel_rfl
  have l1 : fieldAt Try.prog 113 1 = some (4, 3) := by kernel_rfl
  have uv : Try.prog.underlying 31 = some (.slice 117) := by kernel_rfl
  have ul : Try.prog.underlying 34 = some (.slice 113) := by kernel_rfl
  have uk : Try.prog.underlying 111 = some (.array 4 5) := by kernel_rfl
  have uu : Try.prog.underlying 115 = some (.int .u64) := by kernel_rfl
  have g0 : fieldAt Try.prog 30 0 = some (0, 9) := by kernel_rfl
  have g1 : fieldAt Try.prog 30 1 = some (1, 3) := by kernel_rfl
  have g2 : fieldAt Try.prog 30 2 = some (2, 3) := by kernel_rfl
  have g3 : fieldAt Try.prog 30 3 = some (3, 28) := by kernel_rfl
  have g4 : fieldAt Try.prog 30 4 = some (35, 28) := by kernel_rfl
  have g5 : fieldAt Try.prog 30 5 = some (67, 28) := by kernel_rfl
  have g6 : fieldAt Try.prog 30 6 = some (99, 28) := by kernel_rfl
  have u1 : Try.prog.underlying 9 = some .string := by kernel_rfl
  have u2 : Try.prog.underlying 3 = some (.int .i64) := by kernel_rfl
  have u3 : Try.prog.underlying 28 = some (.array 32 5) := by kernel_rfl
  have u4 : Try.prog.underlying 5 = some (.int .u8) := by kernel_rfl
  have c1 : Try.prog.cellsOf 9 = 1 := by kernel_rfl
  have c2 : Try.prog.cellsOf 3 = 1 := by kernel_rfl
  have c3 : Try.prog.cellsOf 28 = 32 := by kernel_rfl
  have c4 : Try.prog.cellsOf 5 = 1 := by kernel_rfl
  have c5 : Try.prog.cellsOf 30 = 131 := by kernel_rfl
  have c6 : Try.prog.cellsOf 33 = 34 := by kernel_rfl
  have c7 : Try.prog.cellsOf 36 = 166 := by kernel_rfl
  have c8 : Try.prog.cellsOf 117 = 2 := by kernel_rfl
  have c9 : Try.prog.cellsOf 113 = 5 := by kernel_rfl
  have d1 : Try.prog.cellsOf 111 = 4 := by kernel_rfl
  have d2 : Try.prog.cellsOf 115 = 1 := by kernel_rfl
  have d3 : Try.prog.cellsOf 31 = 1 := by kernel_rfl
  have d4 : Try.prog.cellsOf 34 = 1 := by kernel_rfl
  have hlen := hv.len b0
  rw [c7] at hlen
  obtain ⟨x, hx, _, _, hh⟩ := fits_header (m := n + 2) g0 g1 g2 g3 g4 g5 g6 u1 u2 u3 u4 c1 c2 c3 c4 c5 (hv.field b0)
  rw [c5] at hh
  have hc := hv.field b1
  rw [c6] at hc
  obtain ⟨ht, k0, _⟩ := (hc.field m0).int u2
  obtain ⟨hs, k1, k1l⟩ := fits_flat32 (m := n + 2) u3 u4 c4 c3 (hc.field m1)
  obtain ⟨sv, vs, k2, k2r⟩ := fits_votes (m := n + 1) uv v0 v1 u2 uu c8 c2 d2 (hc.field m2)
  obtain ⟨sl, ls, k3, k3r⟩ := fits_vals1 (m := n + 1) ul l0 l1 uk u4 u2 c9 d1 c4 c2 (hv.field b2)
  rw [c2] at k0
  rw [c3] at k1
  rw [d3] at k2
  rw [d4] at k3
  refine ⟨⟨x, ⟨ht, hs, vs⟩, ls⟩, sv, sl, ?_, ⟨hx, k1l, k2r, k3r⟩⟩
  have hcc : (cs.drop 131).take 34 = .int .i64 ht :: (bcells hs ++ [sv]) := by
    have hl2 : ((cs.drop 131).take 34).length = 34 := by rw [List.length_take, List.length_drop]; omega
    generalize (cs.drop 131).take 34 = c at *
    rw [← List.drop_zero (l := c), vsplit c 0 1, k0, vsplit c (0 + 1) 32, k1, vsplit c (0 + 1 + 32) 1, k2, show c.drop (0 + 1 + 32 + 1) = [] from List.drop_eq_nil_of_le (by omega), List.append_nil]
    rfl
  rw [← List.drop_zero (l := cs), vsplit cs 0 131, hh, vsplit cs (0 + 131) 34, hcc, vsplit cs (0 + 131 + 34) 1, k3, show cs.drop (0 + 131 + 34 + 1) = [] from List.drop_eq_nil_of_le (by omega), List.append_nil]
  simp only [Bk.cells, Hd.cells, List.cons_append, List.append_assoc, List.nil_append]
structure AC where
  kind : Int
  who : Int
  is : Bool
  b : Bk
  sv : Value
  sl : Value
abbrev AC.cells (a : AC) : List Value := .int .i64 a.kind :: .int .i64 a.who :: .bool a.is :: a.b.cells a.sv a.sl
def acells (l : List AC) : List Value := l.flatMap AC.cells
def zAC : AC := ⟨0, 0, false, zBk, .slice none 0 0, .slice none 0 0⟩
theorem acells_cons (a : AC) (l : List AC) : acells (a :: l) = a.cells ++ acells l := rfl
theorem AC.len {h : Heap} {a : AC} (hb : BkRd h a.b a.sv a.sl) : a.cells.length = 169 := by
  have h1 := hb.hd.prev
  have h2 := hb.hd.vals
  have h3 := hb.hd.next
  have h4 := hb.hd.app
  have h5 := hb.hash
  simp only [AC.cells, Bk.cells, List.length_cons, List.length_append, bcells_len, List.length_nil]
  omega
theorem acells_len {h : Heap} : ∀ {l : List AC}, (∀ a ∈ l, BkRd h a.b a.sv a.sl) → (acells l).length = l.length * 169
  | [], _ => rfl
  | a :: l, hl => by
    rw [acells_cons, List.length_append, acells_len fun b hb => hl b (by simp [hb]), AC.len (hl a (by simp)), List.length_cons]
    omega
theorem acells_at {h : Heap} : ∀ {l : List AC} {k : Nat}, (∀ a ∈ l, BkRd h a.b a.sv a.sl) → k < l.length → ((acells l).drop (k * 169)).take 169 = (l.getD k zAC).cells
  | a :: l, 0, hl, _ => by
    have := AC.len (hl a (by simp))
    rw [acells_cons, Nat.zero_mul, List.drop_zero, ← this, List.take_left]
    rfl
  | a :: l, k + 1, hl, hk => by
    have h1 := AC.len (hl a (by simp))
    have h2 := acells_at (l := l) (k := k) (fun b hb => hl b (by simp [hb])) (by simpa using hk)
    rw [acells_cons, show (k + 1) * 169 = a.cells.length + k * 169 from by omega, ← List.drop_drop, List.drop_left]
    exact h2
theorem act_mem {l : List AC} {k : Nat} (hk : k < l.length) : l.getD k zAC ∈ l := by
  simp [List.getD, hk]
theorem act_cells {h0 h : Heap} {b o n k : Nat} {l : List AC} (hl : ∀ a ∈ l, BkRd h0 a.b a.sv a.sl) (hc : cellsAt h b o (n * 169) = some (acells l)) (hn : l.length = n) (hk : k < n) : Cells h b (o + k * 169) 169 (l.getD k zAC).cells := ⟨by
  rw [cellsAt_sub hc (by omega), acells_at hl (by omega)]⟩
theorem act_block {h0 h : Heap} {b o n k : Nat} {l : List AC} (hl : ∀ a ∈ l, BkRd h0 a.b a.sv a.sl) (hc : cellsAt h b o (n * 169) = some (acells l)) (hn : l.length = n) (hk : k < n) : Cells h b (o + k * 169 + 3) 166 ((l.getD k zAC).b.cells (l.getD k zAC).sv (l.getD k zAC).sl) := ⟨by
  have h5 := (act_cells hl hc hn hk).eq
  have h6 := AC.len (hl _ (act_mem (l := l) (k := k) (by omega)))
  rw [cellsAt_sub (k := 3) (m := 166) h5 (by omega)]
  have : ((l.getD k zAC).b.cells (l.getD k zAC).sv (l.getD k zAC).sl).length = 166 := by
    have e : (l.getD k zAC).cells.length = ((l.getD k zAC).b.cells (l.getD k zAC).sv (l.getD k zAC).sl).length + 3 := rfl
    omega
  simp only [AC.cells, List.drop_succ_cons, List.drop_zero]
  rw [← this, List.take_length]⟩
theorem acts_cells_fit {h : Heap} {n : Nat} {te : TypeId} (f0 : fieldAt Try.prog te 0 = some (0, 3)) (f1 : fieldAt Try.prog te 1 = some (1, 3)) (f2 : fieldAt Try.prog te 2 = some (2, 4)) (f3 : fieldAt Try.prog te 3 = some (3, 36)) (ui : Try.prog.underlying 3 = some (.int .i64)) (ci : Try.prog.cellsOf 3 = 1) (ub : Try.prog.underlying 4 = some .bool) (cB : Try.prog.cellsOf 4 = 1) (cb : Try.prog.cellsOf 36 = 166) :
    ∀ (len : Nat) (c : List Value), c.length = len * 169 → (∀ i, i < len → Fits Try.prog h (n + 7) te ((c.drop (i * 169)).take 169)) → ∃ l : List AC, c = acells l ∧ l.length = len ∧ ∀ a ∈ l, BkRd h a.b a.sv a.sl
  | 0, c, hl, _ => ⟨[], by simpa [acells] using hl, rfl, by simp⟩
  | len + 1, c, hl, hall => by
    have h0 := hall 0 (by omega)
    rw [Nat.zero_mul, List.drop_zero] at h0
    obtain ⟨a, g0, _⟩ := (h0.field f0).int ui
    obtain ⟨w, g1, _⟩ := (h0.field f1).int ui
    obtain ⟨x, sv, sl, g2, hb⟩ := fits_bkM (n := n) (h0.field f3)
    have g3 := h0.field f2
    unfold Fits at g3
    rw [ub] at g3
    obtain ⟨bb, g3⟩ := g3
    rw [cB] at g3
    rw [ci] at g0 g1
    rw [cb] at g2
    obtain ⟨l, e1, e2, e3⟩ := acts_cells_fit f0 f1 f2 f3 ui ci ub cB cb len (c.drop 169) (by rw [List.length_drop]; omega) fun i hi => by
      have := hall (i + 1) (by omega)
      rw [List.drop_drop]
      rw [show (i + 1) * 169 = 169 + i * 169 from by omega] at this
      exact this
    have hl2 : (c.take 169).length = 169 := by rw [List.length_take]; omega
    have he : c.take 169 = (⟨a, w, bb, x, sv, sl⟩ : AC).cells := by
      generalize c.take 169 = e at *
      rw [← List.drop_zero (l := e), vsplit e 0 1, g0, vsplit e (0 + 1) 1, g1, vsplit e (0 + 1 + 1) 1, g3, vsplit e (0 + 1 + 1 + 1) 166, g2, show e.drop (0 + 1 + 1 + 1 + 166) = [] from List.drop_eq_nil_of_le (by omega), List.append_nil]
      rfl
    refine ⟨⟨a, w, bb, x, sv, sl⟩ :: l, ?_, by simp [e2], fun b hb' => (List.mem_cons.1 hb').elim (fun e => by rw [e]; exact hb) (e3 b)⟩
    rw [acells_cons, ← e1, ← he, List.take_append_drop]
theorem fits_acts {h : Heap} {n : Nat} {t te : TypeId} {cs : List Value} (ht : Try.prog.underlying t = some (.slice te)) (f0 : fieldAt Try.prog te 0 = some (0, 3)) (f1 : fieldAt Try.prog te 1 = some (1, 3)) (f2 : fieldAt Try.prog te 2 = some (2, 4)) (f3 : fieldAt Try.prog te 3 = some (3, 36)) (ui : Try.prog.underlying 3 = some (.int .i64)) (ci : Try.prog.cellsOf 3 = 1) (ub : Try.prog.underlying 4 = some .bool) (cB : Try.prog.cellsOf 4 = 1) (cb : Try.prog.cellsOf 36 = 166) (ce : Try.prog.cellsOf te = 169) (hv : Fits Try.prog h (n + 8) t cs) :
    ∃ (v : Value) (l : List AC), cs = [v] ∧ Rd h 169 v (acells l) l.length ∧ ∀ a ∈ l, BkRd h a.b a.sv a.sl := by
  unfold Fits at hv
  rw [ht] at hv
  rcases hv with hv | ⟨b, len, cap, c, hv, hb, hlc, hcap, hro, hl, hall⟩
  · exact ⟨_, [], hv, Rd.nil, by simp⟩
  · rw [ce] at hl hall
    obtain ⟨l, rfl, e2, e3⟩ := acts_cells_fit (n := n) f0 f1 f2 f3 ui ci ub cB cb len c hl hall
    have hal := acells_len e3
    refine ⟨_, l, hv, ⟨_, _, by rw [e2], hal, fun hn => ⟨b, 0, none, rfl, hb, ?_⟩⟩, e3⟩
    rw [cellsAt_of (c := acells l) (by rw [hro (by omega)]; rfl) (by omega), List.drop_zero, List.take_of_length_le (by omega)]
end Go.Proofs.Ytmhnddkpiefkhaa.A

namespace Go.Proofs.Ytmhnddkpiefkhaa.A
open Go Go.Vm
set_option maxRecDepth 10000
set_option linter.unusedVariables false
theorem kkcells_at : ∀ {l : List KK} {k : Nat}, k < l.length → ((kkcells l).drop (k * 3)).take 3 = (l.getD k ⟨0, false, false⟩).cells
  | e :: l, 0, _ => rfl
  | e :: l, k + 1, h => by
    have := kkcells_at (l := l) (k := k) (by simpa using h)
    show (((KK.cells e) ++ kkcells l).drop ((k + 1) * 3)).take 3 = _
    rw [show (k + 1) * 3 = (KK.cells e).length + k * 3 from by simp; omega, ← List.drop_drop, List.drop_left]
    exact this
theorem kk_cells {h : Heap} {b o n k : Nat} {l : List KK} (hc : cellsAt h b o (n * 3) = some (kkcells l)) (hn : l.length = n) (hk : k < n) : Cells h b (o + k * 3) 3 (l.getD k ⟨0, false, false⟩).cells := ⟨by
  rw [cellsAt_sub hc (by omega), kkcells_at (by omega)]⟩
theorem kk_cell {h : Heap} {b o n k i : Nat} {l : List KK} {v : Value} (hc : cellsAt h b o (n * 3) = some (kkcells l)) (hn : l.length = n) (hk : k < n) (hi : i < 3) (hv : ((l.getD k ⟨0, false, false⟩).cells.drop i).take 1 = [v]) : Cell h b (o + k * 3 + i) v := ⟨by
  have h1 := (kk_cells hc hn hk).eq
  rw [cellsAt_sub h1 (by omega)]
  exact congrArg some hv⟩
def hasK (l : List KK) (k : Int) : Option KK := l.find? fun e => decide (e.k = k)
def hasV : Option KK → Value
  | some e => .tuple ⟨[.agg ⟨e.cells⟩, .bool true]⟩
  | none => .tuple ⟨[.agg ⟨[.int .i64 0, .bool false, .bool false]⟩, .bool false]⟩
theorem hasK_step {l : List KK} {i : Nat} {k : Int} (hi : i < l.length) : hasK (l.drop i) k = if (l.getD i ⟨0, false, false⟩).k = k then some (l.getD i ⟨0, false, false⟩) else hasK (l.drop (i + 1)) k := by
  have g : l.getD i ⟨0, false, false⟩ = l[i] := by simp [List.getD, hi]
  rw [List.drop_eq_getElem_cons hi, g]
  unfold hasK
  rw [List.find?_cons]
  by_cases h : l[i].k = k
  · simp [h]
  · simp [h]
set_option maxHeartbeats 4000000 in
theorem has_ok {h : Heap} {v : Value} {L : List KK} {k : Int} (hv : Rd h 3 v (kkcells L) L.length) (hl : L.length < 1000000) :
    Runs Try.prog T0 (.fn fn_znQ) [v, .int .i64 k] h (fun r h' => r = hasV (hasK L k) ∧ Fr (fun _ => False) h h') (fun _ _ => False) := by
  obtain ⟨a, cap, rfl, hlen, hc⟩ := hv
  refine znQ_runs ?_
  refine stp ?_
  have F0 : Fr (fun _ => False) h (h.push (.cells [.int .i64 0, .bool false, .bool false] 0)) := Fr.refl.push
  have g0 : (h.push (.cells [.int .i64 0, .bool false, .bool false] 0)).get h.n = .cells [.int .i64 0, .bool false, .bool false] 0 := HGet.new.eq
  have n0 : (h.push (.cells [.int .i64 0, .bool false, .bool false] 0)).n = h.n + 1 := rfl
  generalize h.push (.cells [.int .i64 0, .bool false, .bool false] 0) = h0 at *
  haveI : HGet h0 h.n _ := ⟨g0⟩
  refine loop1 znQ_l0_M 6 (fun q v6 hx => ∃ i : Nat, i ≤ L.length ∧ q = L.length - i ∧ v6 = .int .i64 i ∧ hasK L k = hasK (L.drop i) k ∧ hx = h0) ?_ L.length ⟨0, by omega, rfl, rfl, by simp, rfl⟩
  rintro m v6 h' x5 x7 x8 x9 x10 x11 x12 x13 x14 x15 x16 x17 x18 x19 x20 x21 x22 x23 ⟨i, hi, rfl, rfl, he, rfl⟩
  refine stp ?_
  refine C.if (fun hlt => ?_) (fun hge => ?_)
  · have hlt : i < L.length := by omega
    obtain ⟨b, o, sp, rfl, hb, hcc⟩ := hc (by omega)
    have hcc' := (cellsAt_keep F0 hb id).trans hcc
    rw [hasK_step hlt] at he
    have c0 := kk_cell (i := 0) hcc' rfl hlt (by omega) rfl
    have cs := kk_cells hcc' rfl hlt
    generalize L.getD i ⟨0, false, false⟩ = E at *
    rw [Nat.add_zero] at c0
    haveI := c0
    haveI := cs
    refine stp ?_
    refine C.if (fun e1 => ?_) (fun e1 => ?_)
    · rw [if_pos e1] at he
      refine stp ?_
      rw [he]
      exact ⟨rfl, F0.set fun e => absurd e (by omega)⟩
    · rw [if_neg e1] at he
      refine stp ?_
      exact loop1a 6 (L.length - (i + 1)) (by omega) ⟨i + 1, by omega, rfl, rfl, he, rfl⟩
  · obtain rfl : i = L.length := by omega
    rw [List.drop_length] at he
    refine stp ?_
    rw [he]
    exact ⟨rfl, F0.set fun e => absurd e (by omega)⟩
theorem same_kk {v w : KK} : same v.cells w.cells = decide (v = w) := by
  by_cases h : v = w
  · rw [h, same_self, decide_eq_true rfl]
  · rw [decide_eq_false h, same_ne]
    intro e
    apply h
    obtain ⟨a, s, p⟩ := v
    obtain ⟨b, t, q⟩ := w
    simp only [KK.cells, List.cons.injEq, Value.int.injEq, Value.bool.injEq, true_and, and_true] at e
    obtain ⟨e1, e2, e3⟩ := e
    rw [e1, e2, e3]
set_option maxHeartbeats 4000000 in
theorem SameKept_ok {h : Heap} {v w : Value} {l m : List KK} (hv : Rd h 3 v (kkcells l) l.length) (hw : Rd h 3 w (kkcells m) m.length) (hs : l.length < 1048576) (ht : m.length < 1048576) :
    Runs Try.prog T0 (.fn fn_ziQ) [v, w] h (fun r h' => r = .bool (decide (l = m)) ∧ h' = h) (fun _ _ => False) := by
  obtain ⟨a, cap, rfl, hlen, hc⟩ := hv
  obtain ⟨a', cap', rfl, hlen', hc'⟩ := hw
  refine ziQ_runs ?_
  refine stp ?_
  refine loop2 ziQ_l0_M 5 6 (fun q v5 v6 h' => ∃ (k : Nat) (B : Bool), k ≤ l.length ∧ q = l.length - k ∧ v6 = .int .i64 k ∧ v5 = .bool B ∧ (B = true ↔ l.length = m.length ∧ l.take k = m.take k) ∧ h' = h) ?_ l.length ⟨0, _, by omega, rfl, rfl, rfl, by simp; omega, rfl⟩
  rintro m v5 v6 h' x12 x13 x14 x15 x16 x17 x18 x19 x20 x21 x22 x23 x24 x25 x26 x27 x28 x29 ⟨k, B, hk, rfl, rfl, rfl, hB, rfl⟩
  cases B with
  | false =>
    refine stp ?_
    have hne : l ≠ m := fun e => by have := hB.2 ⟨by rw [e], by rw [e]⟩; cases this
    rw [decide_eq_false hne]
    exact ⟨rfl, rfl⟩
  | true =>
    obtain ⟨hl1, hl2⟩ := hB.1 rfl
    refine stp ?_
    refine C.if (fun hlt => ?_) (fun hge => ?_)
    · have hlt : k < l.length := by omega
      obtain ⟨b, o, sp, rfl, hb, hcc⟩ := hc (by omega)
      obtain ⟨b', o', sp', rfl, hb', hcc'⟩ := hc' (by omega)
      haveI := kk_cells hcc rfl hlt
      haveI := kk_cells hcc' rfl (show k < m.length by omega)
      refine stp ?_
      rw [same_kk]
      exact loop2a 5 6 (l.length - (k + 1)) (by omega) ⟨k + 1, _, by omega, rfl, rfl, rfl, by rw [decide_eq_true_eq, take_next (z := ⟨0, false, false⟩) hlt (by omega)]; exact ⟨fun e => ⟨hl1, hl2, e⟩, fun e => e.2.2⟩, rfl⟩
    · refine stp ?_
      have e : l = m := by
        have h1 : l.take l.length = m.take l.length := by rw [show l.length = k by omega]; exact hl2
        rwa [List.take_length, hl1, List.take_length] at h1
      rw [decide_eq_true e]
      exact ⟨rfl, rfl⟩
def actOK (a : AC) : Prop := a.b.vals.length ≤ 70 ∧ a.b.c.votes.length ≤ 70 ∧ a.b.h.chain.length ≤ 60
theorem act_take {l : List AC} {k : Nat} (hk : k < l.length) : (∀ a ∈ l.take (k + 1), actOK a) ↔ (∀ a ∈ l.take k, actOK a) ∧ actOK (l.getD k zAC) := by
  have g : l.getD k zAC = l[k] := by simp [List.getD, hk]
  rw [List.take_succ_eq_append_getElem hk, g]
  constructor
  · exact fun h => ⟨fun a ha => h a (List.mem_append.2 (.inl ha)), h _ (List.mem_append.2 (.inr (List.mem_singleton.2 rfl)))⟩
  · rintro ⟨h1, h2⟩ a ha
    rcases List.mem_append.1 ha with ha | ha
    · exact h1 a ha
    · rw [List.mem_singleton.1 ha]; exact h2
set_option maxHeartbeats 4000000 in
theorem long_ok {h : Heap} {v : Value} {l : List AC} (hv : Rd h 169 v (acells l) l.length) (hl : ∀ a ∈ l, BkRd h a.b a.sv a.sl) :
    Runs Try.prog T0 (.fn fn_zoQ) [v] h (fun r h' => (∃ b : Bool, r = .bool b ∧ (b = false → l.length ≤ 40 ∧ ∀ a ∈ l, actOK a)) ∧ Fr (fun _ => False) h h') (fun _ _ => False) := by
  obtain ⟨a, cap, rfl, hlen, hc⟩ := hv
  refine zoQ_runs ?_
  refine stp ?_
  refine loop1 zoQ_l0_M 3 (fun q v3 h' => ∃ k : Nat, k ≤ l.length ∧ k ≤ 41 ∧ q = 41 - k ∧ v3 = .int .i64 k ∧ (∀ a ∈ l.take k, actOK a) ∧ Fr (fun _ => False) h h') ?_ 41 ⟨0, by omega, by omega, rfl, rfl, by simp, Fr.refl⟩
  rintro m v3 h' x2 x4 x5 x6 x7 x8 x9 x10 x11 x12 x13 x14 x15 x16 x17 x18 x19 ⟨k, hk, hk2, rfl, rfl, hall, hf⟩
  refine stp ?_
  refine O.dec (fun e1 => ?_) (fun e1 => ?_)
  · have hlt : k < l.length := by omega
    refine stp ?_
    refine C.if (fun e2 => ?_) (fun e2 => ?_)
    · obtain ⟨b, o, sp, rfl, hb, hcc⟩ := hc (by omega)
      have hcc' : cellsAt h' b o (l.length * 169) = some (acells l) := by rw [cellsAt_keep hf hb id]; exact hcc
      haveI := act_block hl hcc' rfl hlt
      have hm := hl _ (act_mem hlt)
      have hat := act_take hlt
      generalize l.getD k zAC = A at *
      refine stp ?_
      refine O.call' (LongBlock_ok (hm.keep hf fun _ _ => id)) (fun r h1 hr => ?_)
      obtain ⟨⟨b', rfl, hlong⟩, hf1⟩ := hr
      have F1 := hf.trans' hf1
      cases b' with
      | true =>
        refine stp ?_
        exact ⟨⟨true, rfl, fun e => by cases e⟩, F1⟩
      | false =>
        refine stp ?_
        exact loop1a 3 (41 - (k + 1)) (by omega) ⟨k + 1, by omega, by omega, rfl, rfl, hat.2 ⟨hall, hlong rfl⟩, F1⟩
    · refine stp ?_
      exact ⟨⟨_, rfl, fun e => by have := of_decide_eq_false e; omega⟩, hf⟩
  · refine stp ?_
    have hkl : k = l.length := by omega
    exact ⟨⟨_, rfl, fun e => ⟨by have := of_decide_eq_false e; omega, fun a ha => hall a (by rw [List.take_of_length_le (by omega)]; exact ha)⟩⟩, hf⟩
end Go.Proofs.Ytmhnddkpiefkhaa.A

namespace Go.Proofs.Ytmhnddkpiefkhaa.A
open Go Go.Vm
set_option maxRecDepth 10000
set_option linter.unusedVariables false
structure InvS (room : Int) (l : List SE) : Prop where
  le : (l.length : Int) ≤ room
  pos : ∀ y ∈ l, 1 ≤ y.k
  nd : (l.map SE.k).Nodup
theorem hasK_some {B : List KK} (hn : (B.map KK.k).Nodup) {e : KK} (he : e ∈ B) : hasK B e.k = some e := by
  induction B with
  | nil => simp at he
  | cons a B ih =>
    simp only [List.map_cons, List.nodup_cons] at hn
    unfold hasK
    rw [List.find?_cons]
    by_cases h : a.k = e.k
    · have : a = e := by
        rcases List.mem_cons.1 he with h1 | h1
        · exact h1.symm
        · exact absurd (List.mem_map.2 ⟨e, h1, h.symm⟩) hn.1
      simp [this]
    · have h1 : e ∈ B := by
        rcases List.mem_cons.1 he with h1 | h1
        · exact absurd (by rw [h1]) h
        · exact h1
      simp only [h, decide_false]
      exact ih hn.2 h1
theorem hasK_none {B : List KK} {k : Int} (h : ∀ e ∈ B, e.k ≠ k) : hasK B k = none := by
  unfold hasK
  exact List.find?_eq_none.2 fun e he => by simpa using h e he
theorem kk_map (l : List SE) : (l.map SE.kk).map KK.k = l.map SE.k := by rw [List.map_map]; rfl
structure Shows (l : List SE) (A : List KK) : Prop where
  nd : (A.map KK.k).Nodup
  mem : ∀ a, a ∈ A ↔ ∃ y ∈ l, y.kk = a
  len : A.length = l.length
theorem Shows.of {l L : List SE} (hn : (l.map SE.k).Nodup) (hp : L.Perm l) : Shows l (L.map SE.kk) :=
  ⟨by rw [kk_map]; exact ((hp.map SE.k).nodup_iff).2 hn, fun a => ⟨fun h => by
    obtain ⟨y, hy, e⟩ := List.mem_map.1 h
    exact ⟨y, hp.mem_iff.1 hy, e⟩, fun ⟨y, hy, e⟩ => List.mem_map.2 ⟨y, hp.mem_iff.2 hy, e⟩⟩, by rw [List.length_map, hp.length_eq]⟩
theorem Shows.some {l : List SE} {A : List KK} (h : Shows l A) {y : SE} (hy : y ∈ l) : hasK A y.k = some y.kk := hasK_some h.nd ((h.mem _).2 ⟨y, hy, rfl⟩)
theorem Shows.none {l : List SE} {A : List KK} (h : Shows l A) {k : Int} (hk : ∀ y ∈ l, y.k ≠ k) : hasK A k = none := hasK_none fun e he => by
  obtain ⟨y, hy, rfl⟩ := (h.mem e).1 he
  exact hk y hy
def cntP (A : List KK) : Nat := (A.filter fun a => a.p).length
def cntN (A : List KK) : Nat := (A.filter fun a => !a.p && !a.v).length
theorem filter_less {l : List SE} {y : SE} (hy : y ∈ l) : (l.filter fun z => !decide (z.k = y.k)).length < l.length := by
  induction l with
  | nil => simp at hy
  | cons a l ih =>
    rw [List.filter_cons]
    rcases List.mem_cons.1 hy with h | h
    · subst h
      have := List.length_filter_le (fun z : SE => !decide (z.k = y.k)) l
      simp
      omega
    · have := ih h
      split
      · simp only [List.length_cons]
        omega
      · simp only [List.length_cons]
        omega
theorem put_inv {room : Int} {l l' : List SE} {x : Bk} {gone e : Int} (h : PutRel room l x gone e l') (hi : InvS room l) : InvS room l' := by
  rcases h with ⟨_, _, _, rfl⟩ | ⟨hin, ⟨_, _, _, rfl⟩ | ⟨hne, ⟨_, _, _, _, rfl⟩ | ⟨n, hx, _, _, _, ⟨hlt, _, rfl⟩ | ⟨hfull, y, hy, hyp, hmin, _, rfl⟩⟩⟩⟩
  · exact hi
  · exact hi
  · exact hi
  · have hnk : n.k = x.h.height := by show n.x.h.height = _; rw [hx]
    refine ⟨by simp; omega, fun z hz => ?_, ?_⟩
    · rcases List.mem_append.1 hz with hz | hz
      · exact hi.pos z hz
      · rw [List.mem_singleton.1 hz, hnk]; exact hin.1
    · rw [List.map_append, List.nodup_append]
      refine ⟨hi.nd, by simp, fun a ha b hb => ?_⟩
      obtain ⟨z, hz, rfl⟩ := List.mem_map.1 ha
      rw [List.map_singleton, List.mem_singleton] at hb
      rw [hb, hnk]
      exact hne z hz
  · have hnk : n.k = x.h.height := by show n.x.h.height = _; rw [hx]
    have h1 := filter_less hy
    refine ⟨by have := hi.le; simp; omega, fun z hz => ?_, ?_⟩
    · rcases List.mem_append.1 hz with hz | hz
      · exact hi.pos z (List.mem_filter.1 hz).1
      · rw [List.mem_singleton.1 hz, hnk]; exact hin.1
    · rw [List.map_append, List.nodup_append]
      refine ⟨hi.nd.sublist ((List.filter_sublist).map _), by simp, fun a ha b hb => ?_⟩
      obtain ⟨z, hz, rfl⟩ := List.mem_map.1 ha
      rw [List.map_singleton, List.mem_singleton] at hb
      rw [hb, hnk]
      exact hne z (List.mem_filter.1 hz).1
theorem put_has {room : Int} {l l' : List SE} {x : Bk} {gone e : Int} {A B : List KK} (h : PutRel room l x gone e l') (hi : InvS room l) (hA : Shows l A) (hB : Shows l' B) : ∀ a ∈ A, hasK B a.k = if a.k = gone then none else some a := by
  intro a ha
  obtain ⟨z, hz, rfl⟩ := (hA.mem a).1 ha
  have hz1 := hi.pos z hz
  have hzk : z.kk.k = z.k := rfl
  rw [hzk]
  have stay : ∀ {L : List SE}, L = l → gone = 0 → Shows L B → hasK B z.k = if z.k = gone then none else some z.kk := fun {L} e1 e2 e3 => by
    subst e1
    rw [if_neg (by omega)]
    exact e3.some hz
  rcases h with ⟨_, hg, _, hl⟩ | ⟨hin, ⟨_, hg, _, hl⟩ | ⟨hne, ⟨_, _, hg, _, hl⟩ | ⟨n, hx, _, _, _, ⟨hlt, hg, hl⟩ | ⟨hfull, y, hy, hyp, hmin, hg, hl⟩⟩⟩⟩
  · exact stay hl hg hB
  · exact stay hl hg hB
  · exact stay hl hg hB
  · subst hl
    rw [if_neg (by omega)]
    exact hB.some (List.mem_append.2 (.inl hz))
  · subst hl
    have hnk : n.k = x.h.height := by show n.x.h.height = _; rw [hx]
    by_cases hk : z.k = gone
    · rw [if_pos hk]
      refine hB.none fun w hw => ?_
      rcases List.mem_append.1 hw with hw | hw
      · have := (List.mem_filter.1 hw).2
        simp only [Bool.not_eq_true', decide_eq_false_iff_not] at this
        rw [hk, hg]; exact this
      · rw [List.mem_singleton.1 hw, hnk]
        exact fun q => hne z hz q.symm
    · rw [if_neg hk]
      exact hB.some (List.mem_append.2 (.inl (List.mem_filter.2 ⟨hz, by simp only [Bool.not_eq_true', decide_eq_false_iff_not]; rw [← hg]; exact hk⟩)))
theorem put_went {room : Int} {l l' : List SE} {x : Bk} {gone e : Int} {A : List KK} (h : PutRel room l x gone e l') (hi : InvS room l) (hA : Shows l A) :
    hasK A gone = none ∨ ∃ w : KK, hasK A gone = some w ∧ w.p = false ∧ (w.v = true → cntN A = 0) ∧ room ≤ A.length := by
  have zero : gone = 0 → hasK A gone = none := fun e1 => hA.none fun y hy => by have := hi.pos y hy; omega
  rcases h with ⟨_, hg, _, hl⟩ | ⟨hin, ⟨_, hg, _, hl⟩ | ⟨hne, ⟨_, _, hg, _, hl⟩ | ⟨n, hx, _, _, _, ⟨hlt, hg, hl⟩ | ⟨hfull, y, hy, hyp, hmin, hg, hl⟩⟩⟩⟩
  · exact .inl (zero hg)
  · exact .inl (zero hg)
  · exact .inl (zero hg)
  · exact .inl (zero hg)
  · refine .inr ⟨y.kk, by rw [hg]; exact hA.some hy, hyp, fun hv => ?_, by rw [hA.len]; exact hfull⟩
    have hv : y.v = true := hv
    unfold cntN
    rw [List.length_eq_zero_iff, List.filter_eq_nil_iff]
    intro a ha hb
    obtain ⟨z, hz, rfl⟩ := (hA.mem a).1 ha
    have hb : (!z.p && !z.v) = true := hb
    have h1 : z.p = false := by cases hp : z.p <;> simp_all
    have h2 : z.v = false := by cases hp : z.v <;> simp_all
    exact hmin z hz h1 (.inl (by unfold rankS; rw [h2, hv]; decide))
theorem put_full {room : Int} {l l' : List SE} {x : Bk} {gone : Int} {A : List KK} (h : PutRel room l x gone 7 l') (hi : InvS room l) (hA : Shows l A) : room ≤ cntP A ∧ gone = 0 := by
  rcases h with ⟨_, hg, he, hl⟩ | ⟨hin, ⟨_, hg, he, hl⟩ | ⟨hne, ⟨hf, hall, hg, he, hl⟩ | ⟨n, hx, _, _, he, _⟩⟩⟩
  · exact absurd he (by decide)
  · exact absurd he (by decide)
  · refine ⟨?_, hg⟩
    have : A.filter (fun a => a.p) = A := List.filter_eq_self.2 fun a ha => by
      obtain ⟨z, hz, rfl⟩ := (hA.mem a).1 ha
      exact hall z hz
    unfold cntP
    rw [this, hA.len]
    exact hf
  · exact absurd he (by decide)
theorem turn_inv {room k : Int} {l : List SE} {f : SE → SE} (hf : ∀ z, (f z).x = z.x) (hi : InvS room l) : InvS room (turnS k f l) := by
  have hk : ∀ z, (if z.k = k then f z else z).k = z.k := fun z => by
    split
    · show (f z).x.h.height = _; rw [hf]
    · rfl
  refine ⟨by unfold turnS; rw [List.length_map]; exact hi.le, fun y hy => ?_, ?_⟩
  · obtain ⟨z, hz, rfl⟩ := List.mem_map.1 hy
    have h1 := hk z
    have h2 := hi.pos z hz
    show 1 ≤ (if z.k = k then f z else z).k
    rw [h1]; exact h2
  · have : (turnS k f l).map SE.k = l.map SE.k := by
      unfold turnS
      rw [List.map_map]
      exact List.map_congr_left fun z _ => hk z
    rw [this]; exact hi.nd
theorem only_inv {room k : Int} {l : List SE} (hi : InvS room l) : InvS room (onlyS k l) :=
  ⟨by have := hi.le; have := List.length_filter_le (fun z : SE => decide (z.k = k)) l; unfold onlyS; omega, fun y hy => hi.pos y (List.mem_filter.1 hy).1, hi.nd.sublist ((List.filter_sublist).map _)⟩
theorem only_shows {room k : Int} {l : List SE} {A B : List KK} (hi : InvS room l) (hA : Shows l A) (hB : Shows (onlyS k l) B) : (∃ x, hasK A k = some x ∧ B = [x]) ∨ hasK A k = none ∧ B = [] := by
  by_cases h : ∃ y ∈ l, y.k = k
  · obtain ⟨y, hy, hk⟩ := h
    refine .inl ⟨y.kk, by rw [← hk]; exact hA.some hy, ?_⟩
    have hall : ∀ b ∈ B, b = y.kk := fun b hb => by
      obtain ⟨z, hz, rfl⟩ := (hB.mem b).1 hb
      have h1 := List.mem_filter.1 hz
      have h2 : z.k = k := by simpa using h1.2
      rw [inj_of_nodup hi.nd h1.1 hy (by rw [h2, hk])]
    have hin : y.kk ∈ B := (hB.mem _).2 ⟨y, List.mem_filter.2 ⟨hy, by simpa using hk⟩, rfl⟩
    have hn := nodup_of_map _ hB.nd
    match B, hall, hin, hn with
    | [b], hall, _, _ => rw [hall b (by simp)]
    | b :: b' :: B, hall, _, hn =>
      have e1 := hall b (by simp)
      have e2 := hall b' (by simp)
      rw [e1, e2] at hn
      simp at hn
  · have h' : ∀ y ∈ l, y.k ≠ k := fun y hy e => h ⟨y, hy, e⟩
    refine .inr ⟨hA.none h', ?_⟩
    cases B with
    | nil => rfl
    | cons b B =>
      obtain ⟨z, hz, _⟩ := (hB.mem b).1 (by simp)
      have h1 := List.mem_filter.1 hz
      exact absurd (by simpa using h1.2) (h' z h1.1)
end Go.Proofs.Ytmhnddkpiefkhaa.A

namespace Go.Proofs.Ytmhnddkpiefkhaa.A
open Go Go.Vm
set_option maxRecDepth 10000
set_option linter.unusedVariables false
section
variable {P : Program} {ts : List Value} {h : Heap} {x y : Operand} {t t' ty : TypeId} {A : Bool} {l : List Value} {tl : List LK}
instance (priority := high) xnotT [e : Ev ts x (.bool true)] : XOp P ts h (.raw (so (.unOp .not t x) ty)) (.bool false) h := (XOp.notB (A := true) : XOp P ts h (.raw (so (.unOp .not t x) ty)) (.bool (!true)) h)
instance (priority := high) xnotF [e : Ev ts x (.bool false)] : XOp P ts h (.raw (so (.unOp .not t x) ty)) (.bool true) h := (XOp.notB (A := false) : XOp P ts h (.raw (so (.unOp .not t x) ty)) (.bool (!false)) h)
instance (priority := high) xneqF [i : IsBoolT P t] [e : Ev ts x (.bool A)] [e' : Ev ts y (.bool A)] : XOp P ts h (.bin .neq (so (.binOp .neq t x y t') ty) x y) (.bool false) h := by
  have := (XOp.neqB : XOp P ts h (.bin .neq (so (.binOp .neq t x y t') ty) x y) (.bool (!(A == A))) h)
  rw [beq_self_eq_true] at this
  exact this
instance (priority := high) xneqS [i : TLeaves P t tl] [e : Ev ts x (.agg ⟨l⟩)] [e' : Ev ts y (.agg ⟨l⟩)] [g : GrL l] [k : KL tl l] : XOp P ts h (.bin .neq (so (.binOp .neq t x y t') ty) x y) (.bool false) h := by
  have := (XOp.neqAgg : XOp P ts h (.bin .neq (so (.binOp .neq t x y t') ty) x y) (.bool (!same l l)) h)
  rw [same_self] at this
  exact this
theorem xneqI0 {p q : Int} {O : Oper} (hp : p = q) [e1 : Ev ts x (.int .i64 p)] [e2 : Ev ts y (.int .i64 q)] : XOp P ts h (.bin .neq O x y) (.bool false) h := by
  have := (XOp.neqI : XOp P ts h (.bin .neq O x y) (.bool (!decide (p = q))) h)
  rw [decide_eq_true hp] at this
  exact this
theorem xneqI1 {p q : Int} {O : Oper} (hp : p ≠ q) [e1 : Ev ts x (.int .i64 p)] [e2 : Ev ts y (.int .i64 q)] : XOp P ts h (.bin .neq O x y) (.bool true) h := by
  have := (XOp.neqI : XOp P ts h (.bin .neq O x y) (.bool (!decide (p = q))) h)
  rw [decide_eq_false hp] at this
  exact this
theorem xlss0 {p q : Int} {O : Oper} (hp : ¬ p < q) [e1 : Ev ts x (.int .i64 p)] [e2 : Ev ts y (.int .i64 q)] : XOp P ts h (.bin .lss O x y) (.bool false) h := by
  have := (XOp.lssI : XOp P ts h (.bin .lss O x y) (.bool (decide (p < q))) h)
  rw [decide_eq_false hp] at this
  exact this
theorem xgtr0 {p q : Int} {O : Oper} (hp : ¬ q < p) [e1 : Ev ts x (.int .i64 p)] [e2 : Ev ts y (.int .i64 q)] : XOp P ts h (.bin .gtr O x y) (.bool false) h := by
  have := (XOp.gtrI : XOp P ts h (.bin .gtr O x y) (.bool (decide (q < p))) h)
  rw [decide_eq_false hp] at this
  exact this
theorem xeql0 {p q : Int} {O : Oper} (hp : p ≠ q) [e1 : Ev ts x (.int .i64 p)] [e2 : Ev ts y (.int .i64 q)] : XOp P ts h (.bin .eql O x y) (.bool false) h := by
  have := (XOp.eqlI : XOp P ts h (.bin .eql O x y) (.bool (decide (p = q))) h)
  rw [decide_eq_false hp] at this
  exact this
theorem xeql1 {p q : Int} {O : Oper} (hp : p = q) [e1 : Ev ts x (.int .i64 p)] [e2 : Ev ts y (.int .i64 q)] : XOp P ts h (.bin .eql O x y) (.bool true) h := by
  have := (XOp.eqlI : XOp P ts h (.bin .eql O x y) (.bool (decide (p = q))) h)
  rw [decide_eq_true hp] at this
  exact this
end
theorem act_cell {h0 h : Heap} {b o n k i : Nat} {l : List AC} {v : Value} (hl : ∀ a ∈ l, BkRd h0 a.b a.sv a.sl) (hc : cellsAt h b o (n * 169) = some (acells l)) (hn : l.length = n) (hk : k < n) (hi : i < 169) (hv : ((l.getD k zAC).cells.drop i).take 1 = [v]) : Cell h b (o + k * 169 + i) v := ⟨by
  have h1 := (act_cells hl hc hn hk).eq
  rw [cellsAt_sub h1 (by omega)]
  exact congrArg some hv⟩
theorem cntP_step {A : List KK} {k : Nat} (hk : k < A.length) : cntP (A.take (k + 1)) = cntP (A.take k) + if (A.getD k ⟨0, false, false⟩).p then 1 else 0 := by
  have g : A.getD k ⟨0, false, false⟩ = A[k] := by simp [List.getD, hk]
  unfold cntP
  rw [List.take_succ_eq_append_getElem hk, List.filter_append, List.length_append, g]
  cases h : A[k].p <;> simp [h]
theorem cntN_step {A : List KK} {k : Nat} (hk : k < A.length) : cntN (A.take (k + 1)) = cntN (A.take k) + if !(A.getD k ⟨0, false, false⟩).p && !(A.getD k ⟨0, false, false⟩).v then 1 else 0 := by
  have g : A.getD k ⟨0, false, false⟩ = A[k] := by simp [List.getD, hk]
  unfold cntN
  rw [List.take_succ_eq_append_getElem hk, List.filter_append, List.length_append, g]
  cases h : A[k].p <;> cases h2 : A[k].v <;> simp [h, h2]
theorem cnt_le (A : List KK) (k : Nat) : cntP (A.take k) ≤ A.length ∧ cntN (A.take k) ≤ A.length := by
  have h0 : (A.take k).length ≤ A.length := by rw [List.length_take]; omega
  exact ⟨Nat.le_trans (List.length_filter_le _ _) h0, Nat.le_trans (List.length_filter_le _ _) h0⟩
theorem rd_kk {h : Heap} {e : KK} {es : Nat} : Rd (h.push (.cells e.cells es)) 3 (.slice (some ⟨h.n, 0, none⟩) 1 1) (kkcells [e]) [e].length :=
  Rd.mk (size := 3) (n := 1) (cap := 1) (sp := none) (o := 0) (b := h.n) (c := kkcells [e]) (by simp) (by rw [cellsAt_of (c := e.cells) (by rw [Heap.get_push, if_pos rfl]; rfl) (by simp)]; rfl)
end Go.Proofs.Ytmhnddkpiefkhaa.A
