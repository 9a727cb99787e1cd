/- Contracts of the document's BLAKE2s (landfallref03), 2: a block. -/
import Derived.Test.YtcapkoclbmaahaaBL5k
import Derived.Test.YtcapkoclbmaahaaVK
namespace Go.Proofs.Ytcapkoclbmaahaa.A
open Go Go.Vm
set_option maxRecDepth 10000
set_option linter.unusedVariables false

/-- cells of numbers -/
def icells (l : List Nat) : List Value := l.map fun n => .int .i64 (n : Nat)
theorem icells_len (l : List Nat) : (icells l).length = l.length := by simp [icells]
class NLen (v : List Nat) (n : outParam Nat) : Prop where
  eq : v.length = n
instance (priority := 2000) {v : List Nat} {n : Nat} [k : NLen v n] : Sub (icells v) 0 n (icells v) := ⟨by rw [icells_len, k.eq]; omega, by rw [List.drop_zero, List.take_of_length_le (by rw [icells_len, k.eq]; omega)]⟩
instance {v : List Nat} : One (icells v) := ⟨by simp [icells, Value.oneCell']⟩
instance (priority := 2000) {v : List Nat} {n : Nat} [k : NLen v n] : LenN (icells v) n := ⟨by rw [icells_len, k.eq]⟩
instance (priority := 2000) {l : List Value} {v : List Nat} {n : Nat} [j : NLen v n] [k : LenN l n] : Over l 0 (icells v) (icells v) := ⟨by rw [icells_len, j.eq, k.eq]; omega, by
  have := over_whole l (icells v) [] (by rw [icells_len, k.eq, j.eq])
  simpa using this⟩

theorem begin_okD {h : Heap} : Runs Try.prog T0 (.fn fn_landfallref03_begin) [] h (fun r h' => r = .agg ⟨wcells beginW⟩ ∧ Fr (fun _ => False) h h') (fun _ _ => False) := by
  refine landfallref03_begin_runs (v := undef) ?_
  refine stp ?_
  exact ⟨rfl, Fr.refl.push⟩
theorem begin_okC {h : Heap} : Runs Try.prog T0 (.fn fn_landfallref03_begin) [] h (fun r h' => r = .agg ⟨beginC⟩ ∧ Fr (fun _ => False) h h') (fun _ _ => False) := by
  refine landfallref03_begin_runs (v := undef) ?_
  refine stp ?_
  exact ⟨rfl, Fr.refl.push⟩

theorem put_i {h : Heap} {q es : Nat} {c : List Value} {v : List Nat} (hg : h.get q = .cells c es) (hl : c.length = v.length) : putAt h q 0 (icells v) = some (h.set q (.cells (icells v) es)) := by
  simp only [putAt, hg]
  rw [if_pos ⟨by rw [icells_len]; omega, by simp [icells, Value.oneCell']⟩]
  congr 3
  have := over_whole c (icells v) [] (by rw [icells_len, hl])
  simpa using this
theorem XOp.mkStoreAgg {P : Program} {ts : List Value} {h h' : Heap} {a x : Operand} {n r o : Nat} {sp : Option Nat} {l : List Value} [e : Ev ts a (.pointer (some ⟨r, o, sp⟩))] [f : Ev ts x (.agg ⟨l⟩)] (hn : l.length = n) (hp : putAt h r o l = some h') : XOp P ts h (.store n a x) undef h' := ⟨rfl, by
  simp only [xop, e.eq, f.eq]
  rw [if_pos (by simpa [Value.cells] using hn)]
  show (match putAt h r o (Value.cells (.agg ⟨l⟩)).toList with | some h' => R.ok undef h' | none => R.bad) = _
  rw [show (Value.cells (.agg ⟨l⟩)).toList = l from rfl, hp]⟩
theorem O.how0 {P : Program} {T : Table} {ts : List Value} {ds : List Deferred} {h h' : Heap} {rd : Option Nat} {op : AOp} {v : Value} {chk : List (Option Nat × AOp × Option (Nat × Bool))} {pan : Bool} {rest : List AOper} {Q : QP} (k : XOp P ts h op v h') (hr : RunO P T rest ⟨ts, ds, h', rd⟩ Q) : RunO P T (⟨none, op, none, chk, pan⟩ :: rest) ⟨ts, ds, h, rd⟩ Q := O.one0 hr

def rowS (r : Nat) : List Nat := (sigma.drop (r * 16)).take 16
theorem rowS_len {r : Nat} (hr : r < 10) : (rowS r).length = 16 := by
  have : sigma.length = 160 := rfl
  unfold rowS; rw [List.length_take, List.length_drop]; omega
theorem rowS_get {r j : Nat} (hr : r < 10) (hj : j < 16) : (rowS r).getD j 0 = sigma.getD (16 * r + j) 0 := by
  unfold rowS
  simp only [List.getD_eq_getElem?_getD]
  rw [List.getElem?_take_of_lt hj, List.getElem?_drop, Nat.mul_comm]

set_option maxHeartbeats 4000000 in
theorem row_okD {h : Heap} {r : Nat} (hr : r < 10) : Runs Try.prog T0 (.fn fn_landfallref03_row) [.int .i64 (r : Nat)] h (fun v h' => v = .agg ⟨icells (rowS r)⟩ ∧ Fr (fun _ => False) h h') (fun _ _ => False) := by
  refine landfallref03_row_runs ?_
  refine stp ?_
  generalize hH : h.push (.cells _ 0) = H
  refine O.by (v := .agg ⟨icells [0, 1, 2, 3, 4, 5, 6, 7, 8, 9, 10, 11, 12, 13, 14, 15]⟩) (h' := H) (by kernel_rfl) rfl ?_
  refine O.by (v := .agg ⟨icells [14, 10, 4, 8, 9, 15, 13, 6, 1, 12, 0, 2, 11, 7, 5, 3]⟩) (h' := H) (by kernel_rfl) rfl ?_
  refine O.by (v := .agg ⟨icells [11, 8, 12, 0, 5, 2, 15, 13, 10, 14, 3, 6, 7, 1, 9, 4]⟩) (h' := H) (by kernel_rfl) rfl ?_
  refine O.by (v := .agg ⟨icells [7, 9, 3, 1, 13, 12, 11, 14, 2, 6, 5, 10, 4, 0, 15, 8]⟩) (h' := H) (by kernel_rfl) rfl ?_
  refine O.by (v := .agg ⟨icells [9, 0, 5, 7, 2, 4, 10, 15, 14, 1, 11, 12, 6, 8, 3, 13]⟩) (h' := H) (by kernel_rfl) rfl ?_
  refine O.by (v := .agg ⟨icells [2, 12, 6, 10, 0, 11, 8, 3, 4, 13, 7, 5, 15, 14, 1, 9]⟩) (h' := H) (by kernel_rfl) rfl ?_
  refine O.by (v := .agg ⟨icells [12, 5, 1, 15, 14, 13, 4, 10, 0, 7, 6, 3, 9, 2, 8, 11]⟩) (h' := H) (by kernel_rfl) rfl ?_
  refine O.by (v := .agg ⟨icells [13, 11, 7, 14, 12, 1, 3, 9, 5, 0, 15, 4, 8, 6, 2, 10]⟩) (h' := H) (by kernel_rfl) rfl ?_
  refine O.by (v := .agg ⟨icells [6, 15, 14, 9, 11, 3, 0, 8, 12, 2, 13, 7, 1, 4, 10, 5]⟩) (h' := H) (by kernel_rfl) rfl ?_
  refine O.by (v := .agg ⟨icells [10, 2, 8, 4, 7, 6, 1, 5, 15, 11, 9, 14, 3, 12, 13, 0]⟩) (h' := H) (by kernel_rfl) rfl ?_
  refine O.by (v := .agg ⟨icells sigma⟩) (h' := H) (by kernel_rfl) rfl ?_
  refine stp ?_
  have hrl := rowS_len hr
  haveI : NLen (rowS r) 16 := ⟨hrl⟩
  have gH : HGet H h.n (.cells (List.replicate 16 (.int .i64 0)) 0) := ⟨by rw [← hH, Heap.get_push, if_pos rfl]; rfl⟩
  have hn : H.n = h.n + 1 := by rw [← hH]; simp
  have hF : Fr (fun _ => False) h H := by rw [← hH]; exact Fr.refl.push
  clear hH
  refine O.how0 (XOp.mkStoreAgg rfl (put_i (v := sigma) (es := 0) (by rw [Heap.get_push, if_pos rfl]) (by rfl))) ?_
  generalize hH2 : Heap.set (H.push _) H.n _ = H2
  have g2 : H2.get H.n = .cells (icells sigma) 0 := by rw [← hH2, Heap.get_set, if_pos rfl]
  have g2O : HGet H2 h.n (.cells (List.replicate 16 (.int .i64 0)) 0) := ⟨by rw [← hH2, Heap.get_set, if_neg (by omega), Heap.get_push, if_neg (by omega), gH.eq]⟩
  have hF2 : Fr (fun _ => False) h H2 := by rw [← hH2]; exact Fr.set hF.push fun h => by omega
  clear hH2
  haveI := g2O
  haveI : Cells H2 H.n (r * 16) 16 (icells (rowS r)) := ⟨by
    rw [cellsAt_of (c := icells sigma) (by rw [g2]; rfl) (by rw [icells_len]; show r * 16 + 16 ≤ 160; omega)]
    simp only [icells, rowS, List.map_drop, List.map_take]⟩
  haveI : LenN (List.replicate 16 (Value.int .i64 0)) 16 := ⟨rfl⟩
  refine stp ?_
  exact ⟨rfl, Fr.set hF2 fun h => by omega⟩
end Go.Proofs.Ytcapkoclbmaahaa.A
