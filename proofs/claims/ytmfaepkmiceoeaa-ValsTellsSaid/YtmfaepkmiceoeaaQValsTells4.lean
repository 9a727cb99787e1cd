/- Contracts of functions, over the machine. -/
import Derived.Test.YtmfaepkmiceoeaaQValsTells3
import Derived.Test.YtmfaepkmiceoeaaVK
noncomputable section
namespace Go.Proofs.Ytmfaepkmiceoeaa.A
open Go Go.Vm
set_option maxRecDepth 10000
set_option linter.unusedVariables false
def icells (l : List Nat) : List Value := l.map fun n => .int .i64 (n : Nat)
theorem icells_len (l : List Nat) : (icells l).length = l.length := by simp [icells]
class NLen (v : List Nat) (n : outParam Nat) : Prop where
  eq : v.length = n
instance (priority := 2000) {v : List Nat} {n : Nat} [k : NLen v n] : Sub (icells v) 0 n (icells v) := ⟨by rw [icells_len, k.eq]; omega, by rw [List.drop_zero, List.take_of_length_le (by rw [icells_len, k.eq]; omega)]⟩
instance {v : List Nat} : One (icells v) := ⟨by simp [icells, Value.oneCell']⟩
instance (priority := 2000) {v : List Nat} {n : Nat} [k : NLen v n] : LenN (icells v) n := ⟨by rw [icells_len, k.eq]⟩
instance (priority := 2000) {l : List Value} {v : List Nat} {n : Nat} [j : NLen v n] [k : LenN l n] : Over l 0 (icells v) (icells v) := ⟨by rw [icells_len, j.eq, k.eq]; omega, by
  have := over_whole l (icells v) [] (by rw [icells_len, k.eq, j.eq])
  simpa using this⟩
theorem begin_okD {h : Heap} : Runs Try.prog T0 (.fn fn_zzQ) [] h (fun r h' => r = .agg ⟨wcells beginW⟩ ∧ Fr (fun _ => False) h h') (fun _ _ => False) := by
  refine zzQ_runs (v := undef) ?_
  refine stp ?_
  exact ⟨rfl, Fr.refl.push⟩
theorem begin_okC {h : Heap} : Runs Try.prog T0 (.fn fn_zzQ) [] h (fun r h' => r = .agg ⟨beginC⟩ ∧ Fr (fun _ => False) h h') (fun _ _ => False) := by
  refine zzQ_runs (v := undef) ?_
  refine stp ?_
  exact ⟨rfl, Fr.refl.push⟩
theorem put_i {h : Heap} {q es : Nat} {c : List Value} {v : List Nat} (hg : h.get q = .cells c es) (hl : c.length = v.length) : putAt h q 0 (icells v) = some (h.set q (.cells (icells v) es)) := by
  simp only [putAt, hg]
  rw [if_pos ⟨by rw [icells_len]; omega, by simp [icells, Value.oneCell']⟩]
  congr 3
  have := over_whole c (icells v) [] (by rw [icells_len, hl])
  simpa using this
theorem XOp.mkStoreAgg {P : Program} {ts : List Value} {h h' : Heap} {a x : Operand} {n r o : Nat} {sp : Option Nat} {l : List Value} [e : Ev ts a (.pointer (some ⟨r, o, sp⟩))] [f : Ev ts x (.agg ⟨l⟩)] (hn : l.length = n) (hp : putAt h r o l = some h') : XOp P ts h (.store n a x) undef h' := ⟨rfl, by
  simp only [xop, e.eq, f.eq]
  rw [if_pos (by simpa [Value.cells] using hn)]
  show (match putAt h r o (Value.cells (.agg ⟨l⟩)).toList with | some h' => R.ok undef h' | none => R.bad) = _
  rw [show (Value.cells (.agg ⟨l⟩)).toList = l from rfl, hp]⟩
theorem O.how0 {P : Program} {T : Table} {ts : List Value} {ds : List Deferred} {h h' : Heap} {rd : Option Nat} {op : AOp} {v : Value} {chk : List (Option Nat × AOp × Option (Nat × Bool))} {pan : Bool} {rest : List AOper} {Q : QP} (k : XOp P ts h op v h') (hr : RunO P T rest ⟨ts, ds, h', rd⟩ Q) : RunO P T (⟨none, op, none, chk, pan⟩ :: rest) ⟨ts, ds, h, rd⟩ Q := O.one0 hr
def rowS (r : Nat) : List Nat := (sigma.drop (r * 16)).take 16
theorem rowS_len {r : Nat} (hr : r < 10) : (rowS r).length = 16 := by
  have : sigma.length = 160 := rfl
  unfold rowS; rw [List.length_take, List.length_drop]; omega
theorem rowS_get {r j : Nat} (hr : r < 10) (hj : j < 16) : (rowS r).getD j 0 = sigma.getD (16 * r + j) 0 := by
  unfold rowS
  simp only [List.getD_eq_getElem?_getD]
  rw [List.getElem?_take_of_lt hj, List.getElem?_drop, Nat.mul_comm]
set_option maxHeartbeats 4000000 in
theorem row_okD {h : Heap} {r : Nat} (hr : r < 10) : Runs Try.prog T0 (.fn fn_zcbQ) [.int .i64 (r : Nat)] h (fun v h' => v = .agg ⟨icells (rowS r)⟩ ∧ Fr (fun _ => False) h h') (fun _ _ => False) := by
  refine zcbQ_runs ?_
  refine stp ?_
  generalize hH : h.push (.cells _ 0) = H
  refine O.by (v := .agg ⟨icells [0, 1, 2, 3, 4, 5, 6, 7, 8, 9, 10, 11, 12, 13, 14, 15]⟩) (h' := H) (by kernel_rfl) rfl ?_
  refine O.by (v := .agg ⟨icells [14, 10, 4, 8, 9, 15, 13, 6, 1, 12, 0, 2, 11, 7, 5, 3]⟩) (h' := H) (by kernel_rfl) rfl ?_
  refine O.by (v := .agg ⟨icells [11, 8, 12, 0, 5, 2, 15, 13, 10, 14, 3, 6, 7, 1, 9, 4]⟩) (h' := H) (by kernel_rfl) rfl ?_
  refine O.by (v := .agg ⟨icells [7, 9, 3, 1, 13, 12, 11, 14, 2, 6, 5, 10, 4, 0, 15, 8]⟩) (h' := H) (by kernel_rfl) rfl ?_
  refine O.by (v := .agg ⟨icells [9, 0, 5, 7, 2, 4, 10, 15, 14, 1, 11, 12, 6, 8, 3, 13]⟩) (h' := H) (by kernel_rfl) rfl ?_
  refine O.by (v := .agg ⟨icells [2, 12, 6, 10, 0, 11, 8, 3, 4, 13, 7, 5, 15, 14, 1, 9]⟩) (h' := H) (by kernel_rfl) rfl ?_
  refine O.by (v := .agg ⟨icells [12, 5, 1, 15, 14, 13, 4, 10, 0, 7, 6, 3, 9, 2, 8, 11]⟩) (h' := H) (by kernel_rfl) rfl ?_
  refine O.by (v := .agg ⟨icells [13, 11, 7, 14, 12, 1, 3, 9, 5, 0, 15, 4, 8, 6, 2, 10]⟩) (h' := H) (by kernel_rfl) rfl ?_
  refine O.by (v := .agg ⟨icells [6, 15, 14, 9, 11, 3, 0, 8, 12, 2, 13, 7, 1, 4, 10, 5]⟩) (h' := H) (by kernel_rfl) rfl ?_
  refine O.by (v := .agg ⟨icells [10, 2, 8, 4, 7, 6, 1, 5, 15, 11, 9, 14, 3, 12, 13, 0]⟩) (h' := H) (by kernel_rfl) rfl ?_
  refine O.by (v := .agg ⟨icells sigma⟩) (h' := H) (by kernel_rfl) rfl ?_
  refine stp ?_
  have hrl := rowS_len hr
  haveI : NLen (rowS r) 16 := ⟨hrl⟩
  have gH : HGet H h.n (.cells (List.replicate 16 (.int .i64 0)) 0) := ⟨by rw [← hH, Heap.get_push, if_pos rfl]; rfl⟩
  have hn : H.n = h.n + 1 := by rw [← hH]; simp
  have hF : Fr (fun _ => False) h H := by rw [← hH]; exact Fr.refl.push
  clear hH
  refine O.how0 (XOp.mkStoreAgg rfl (put_i (v := sigma) (es := 0) (by rw [Heap.get_push, if_pos rfl]) (by rfl))) ?_
  generalize hH2 : Heap.set (H.push _) H.n _ = H2
  have g2 : H2.get H.n = .cells (icells sigma) 0 := by rw [← hH2, Heap.get_set, if_pos rfl]
  have g2O : HGet H2 h.n (.cells (List.replicate 16 (.int .i64 0)) 0) := ⟨by rw [← hH2, Heap.get_set, if_neg (by omega), Heap.get_push, if_neg (by omega), gH.eq]⟩
  have hF2 : Fr (fun _ => False) h H2 := by rw [← hH2]; exact Fr.set hF.push fun h => by omega
  clear hH2
  haveI := g2O
  haveI : Cells H2 H.n (r * 16) 16 (icells (rowS r)) := ⟨by
    rw [cellsAt_of (c := icells sigma) (by rw [g2]; rfl) (by rw [icells_len]; show r * 16 + 16 ≤ 160; omega)]
    simp only [icells, rowS, List.map_drop, List.map_take]⟩
  haveI : LenN (List.replicate 16 (Value.int .i64 0)) 16 := ⟨rfl⟩
  refine stp ?_
  exact ⟨rfl, Fr.set hF2 fun h => by omega⟩
end Go.Proofs.Ytmfaepkmiceoeaa.A

namespace Go.Proofs.Ytmfaepkmiceoeaa.A
open Go Go.Vm
set_option maxRecDepth 10000
set_option linter.unusedVariables false
set_option synthInstance.maxSize 1000
set_option synthInstance.maxHeartbeats 200000
theorem word_eq (b : List UInt8) (k : Nat) : wordS b k = (b.getD (4 * k) 0).toUInt32 ||| (b.getD (4 * k + 1) 0).toUInt32 <<< UInt32.ofNat 8 ||| (b.getD (4 * k + 2) 0).toUInt32 <<< UInt32.ofNat 16 ||| (b.getD (4 * k + 3) 0).toUInt32 <<< UInt32.ofNat 24 := by
  have hg : ∀ j, (b.drop (4 * k)).getD j 0 = b.getD (4 * k + j) 0 := fun j => by
    simp only [List.getD_eq_getElem?_getD, List.getElem?_drop]
  unfold wordS
  simp only [pw, hg]
  rw [show UInt32.ofNat (8 * 0) = 0 from rfl, UInt32.shiftLeft_zero, UInt32.zero_or]
  rfl
set_option maxHeartbeats 4000000 in
theorem block_okD {h : Heap} {q : Nat} {hs : List UInt32} {b : List UInt8} {v : Value} {many : Nat} {last : Bool} (hl : hs.length = 8) (hv : Sl h v q b) (hb : b.length = 64) (hm : many < 4294967296) :
    Runs Try.prog T0 (.fn fn_zabQ) [.agg ⟨wcells hs⟩, v, .int .i64 (many : Nat), .bool last] h (fun r h' => r = .agg ⟨wcells (blockS hs b many last)⟩ ∧ Fr (fun _ => False) h h') (fun _ _ => False) := by
  haveI : WLen hs 8 := ⟨hl⟩
  obtain ⟨o, sp, cap, cs, es', rfl, hs2, hs3, hs4, hs5, hs6⟩ := hv.ex
  refine zabQ_runs ?_
  refine stp ?_
  generalize hH : ((h.push (.cells (wcells hs) 0)).push (.cells _ 0)).push (.cells _ 0) = H
  have hHn : H.n = h.n + 3 := by rw [← hH]; rfl
  have gh : H.get h.n = .cells (wcells hs) 0 := by rw [← hH, Heap.get_push, if_neg (by simp; omega), Heap.get_push, if_neg (by simp), Heap.get_push, if_pos rfl]
  have go : H.get (h.n + 1) = .cells (wcells (List.replicate 8 0)) 0 := by rw [← hH, Heap.get_push, if_neg (by simp), Heap.get_push, if_pos (by simp)]; rfl
  have gm : H.get (h.n + 2) = .cells (wcells (List.replicate 16 0)) 0 := by rw [← hH, Heap.get_push, if_pos (by simp)]; rfl
  have hF : Fr (fun _ => False) h H := by rw [← hH]; exact Fr.refl.push.push.push
  clear hH
  simp only [Heap.n_push]
  refine zabQ_l0_rule (fun m v10 h' => ∃ k : Nat, k ≤ 16 ∧ m = 16 - k ∧ v10 = .int .i64 k ∧ (∃ ms : List UInt32, h'.get (h.n + 2) = .cells (wcells ms) 0 ∧ ms.length = 16 ∧ ∀ j, j < 16 → ms.getD j 0 = if j < k then wordS b j else 0) ∧ Fr (fun i => i = h.n + 2) H h') ?_ 16 ⟨0, by omega, rfl, rfl, ⟨_, gm, by simp, fun j hj => by rw [if_neg (by omega)]; simp only [List.getD_eq_getElem?_getD, List.getElem?_replicate, if_pos hj]; rfl⟩, Fr.refl⟩
  rintro m v10 h' x18 x19 x20 x21 x22 x23 x24 x25 x26 x27 x28 x29 x30 x31 x32 x33 x34 x35 x36 x37 x38 x39 x40 x41 x42 x43 x44 x45 x46 x47 x48 x49 x50 x51 x52 x53 x54 x55 x56 ⟨k, hk, rfl, rfl, ⟨ms, gms, hml, hms⟩, hf⟩
  refine stp ?_
  refine C.if (fun hlt => ?_) (fun hge => ?_)
  · have hk : k < 16 := by omega
    have hcc : cellsAt h' q o b.length = some (bcells b) := by rw [← hs6, cellsAt_keep hf (by omega) (by omega), cellsAt_keep hF hs3 id]
    haveI c0 := byte_cell (k := 4 * k) hcc (by omega)
    haveI c1 := byte_cell (k := 4 * k + 1) hcc (by omega)
    haveI c2 := byte_cell (k := 4 * k + 2) hcc (by omega)
    haveI c3 := byte_cell (k := 4 * k + 3) hcc (by omega)
    haveI : HGet h' (h.n + 2) _ := ⟨gms⟩
    haveI : WIx ms k := ⟨by omega⟩
    have e4 : IntKind.i64.wrap (4 * (k : Int)) = 4 * k := mul_in (by omega)
    refine stp ?_
    rw [show o + (IntKind.i64.wrap (4 * (k : Int))).toNat * 1 = o + 4 * k from by rw [e4]; omega]
    refine stp ?_
    rw [show o + (IntKind.i64.wrap (4 * (k : Int)) + 1).toNat * 1 = o + (4 * k + 1) from by rw [e4]; omega]
    refine stp ?_
    refine D.how (XOp.shlW 8 rfl (by omega)) rfl ?_
    refine stp ?_
    rw [show o + (IntKind.i64.wrap (4 * (k : Int)) + 2).toNat * 1 = o + (4 * k + 2) from by rw [e4]; omega]
    refine stp ?_
    refine D.how (XOp.shlW 16 rfl (by omega)) rfl ?_
    refine stp ?_
    rw [show o + (IntKind.i64.wrap (4 * (k : Int)) + 3).toNat * 1 = o + (4 * k + 3) from by rw [e4]; omega]
    refine stp ?_
    refine D.how (XOp.shlW 24 rfl (by omega)) rfl ?_
    refine stp ?_
    rw [← word_eq b k]
    refine zabQ_l0_again (16 - (k + 1)) (by omega) ⟨k + 1, by omega, rfl, rfl, ⟨_, by rw [Heap.get_set, if_pos rfl], by simpa using hml, fun j hj => ?_⟩, hf.set fun _ => rfl⟩
    rw [getD_set (by omega)]
    by_cases e : j = k
    · rw [if_pos e, e, if_pos (by omega)]
    · rw [if_neg e, hms j hj]
      by_cases e2 : j < k
      · rw [if_pos e2, if_pos (by omega)]
      · rw [if_neg e2, if_neg (by omega)]
  · obtain rfl : k = 16 := by omega
    have hmw : ms = wordsS b := words_ext (by rw [hml, wordsS_len]) fun j hj => by rw [hms j (by omega), if_pos (by omega), wordsS_get b (by omega)]
    subst hmw
    clear hms hge hs6 hs5 hs4
    refine stp ?_
    generalize hH1 : h'.push (.cells _ 0) = H1
    have hn' := hf.n
    have g1v : H1.get h'.n = .cells (wcells (List.replicate 16 0)) 0 := by rw [← hH1, Heap.get_push, if_pos rfl]; rfl
    have g1m : H1.get (h.n + 2) = .cells (wcells (wordsS b)) 0 := by rw [← hH1, Heap.get_push, if_neg (by omega), gms]
    have g1h : H1.get h.n = .cells (wcells hs) 0 := by rw [← hH1, Heap.get_push, if_neg (by omega), hf.get _ (by omega) (by omega), gh]
    have g1o : H1.get (h.n + 1) = .cells (wcells (List.replicate 8 0)) 0 := by rw [← hH1, Heap.get_push, if_neg (by omega), hf.get _ (by omega) (by omega), go]
    have hn1 : H1.n = h'.n + 1 := by rw [← hH1]; rfl
    have hF1 : Fr (fun _ => False) h H1 := by rw [← hH1]; exact (Fr.trans (S := fun _ => False) (S' := fun i => i = h.n + 2) hF hf fun i hi h => by omega).push
    clear hH1 gms go gm gh
    generalize h'.n = vq at *
    clear hf hF
    refine zabQ_l1_rule (fun m v12 h' => ∃ k : Nat, k ≤ 8 ∧ m = 8 - k ∧ v12 = .int .i64 k ∧ (∃ vs : List UInt32, h'.get vq = .cells (wcells vs) 0 ∧ vs.length = 16 ∧ ∀ j, j < 16 → vs.getD j 0 = if j < k then hs.getD j 0 else if 8 ≤ j ∧ j < 8 + k then beginW.getD (j - 8) 0 else 0) ∧ Fr (fun i => i = vq) H1 h') ?_ 8 ⟨0, by omega, rfl, rfl, ⟨_, g1v, by simp, fun j hj => by rw [if_neg (by omega), if_neg (by omega)]; simp only [List.getD_eq_getElem?_getD, List.getElem?_replicate, if_pos hj]; rfl⟩, Fr.refl⟩
    rintro m v12 h' x57 x58 x59 x60 x61 x62 x63 x64 x65 x66 x67 x68 x69 x70 x71 ⟨k, hk, rfl, rfl, ⟨vs, gvs, hvl, hvs⟩, hf⟩
    refine stp ?_
    refine C.if (fun hlt => ?_) (fun hge => ?_)
    · have hk : k < 8 := by omega
      haveI : HGet h' vq _ := ⟨gvs⟩
      haveI : HGet h' h.n (.cells (wcells hs) 0) := ⟨by rw [hf.get _ (by omega) (by omega), g1h]⟩
      haveI : WIx hs k := ⟨by omega⟩
      haveI : WIx vs k := ⟨by omega⟩
      haveI : WIx vs (k + 8) := ⟨by omega⟩
      haveI : WIx beginW k := ⟨by show k < 8; omega⟩
      refine stp ?_
      refine O.call' begin_okD (fun r h2 hr => ?_)
      obtain ⟨rfl, hf2⟩ := hr
      have hn2 := hf2.n
      simp only [Heap.n_set] at hn2
      haveI : HGet h2 vq (.cells (wcells (vs.set k (hs.getD k 0))) 0) := ⟨by rw [hf2.get _ (by have := hf.n; simp; omega) id, Heap.get_set, if_pos rfl]⟩
      refine stp ?_
      refine O.how (XOp.mkIndex1 (m := k) k rfl (by omega) (by omega)) ?_
      refine stp ?_
      rw [show 0 + ((k : Int) + 8).toNat * 1 = k + 8 from by omega]
      refine stp ?_
      refine zabQ_l1_again (8 - (k + 1)) (by omega) ⟨k + 1, by omega, rfl, rfl, ⟨_, by rw [Heap.get_set, if_pos rfl], by simpa using hvl, fun j hj => ?_⟩, Fr.set (Fr.trans' (Fr.set hf fun _ => rfl) (hf2.mono fun _ _ h => h.elim)) fun _ => rfl⟩
      rw [getD_set (by simp; omega), getD_set (by omega), hvs j hj]
      by_cases e1 : j = k + 8
      · rw [if_pos e1, if_neg (show ¬ j < k + 1 by omega), if_pos (show 8 ≤ j ∧ j < 8 + (k + 1) by omega)]
        congr 1; omega
      · rw [if_neg e1]
        by_cases e2 : j = k
        · rw [if_pos e2, if_pos (show j < k + 1 by omega), e2]
        · rw [if_neg e2]
          by_cases e3 : j < k
          · rw [if_pos e3, if_pos (show j < k + 1 by omega)]
          · rw [if_neg e3, if_neg (show ¬ j < k + 1 by omega)]
            by_cases e4 : 8 ≤ j ∧ j < 8 + k
            · rw [if_pos e4, if_pos (show 8 ≤ j ∧ j < 8 + (k + 1) by omega)]
            · rw [if_neg e4, if_neg (show ¬ (8 ≤ j ∧ j < 8 + (k + 1)) by omega)]
    · obtain rfl : k = 8 := by omega
      have hvb : vs = hs ++ beginW := words_ext (by rw [hvl, List.length_append, hl]; rfl) fun j hj => by
        rw [hvs j (by omega)]
        simp only [List.getD_eq_getElem?_getD]
        by_cases e : j < 8
        · rw [if_pos e, List.getElem?_append_left (by omega)]
        · rw [if_neg e, if_pos (by omega), List.getElem?_append_right (by omega), hl]
      subst hvb
      clear hvs hge
      haveI : WIx (hs ++ beginW) 12 := ⟨by omega⟩
      haveI : WIx (hs ++ beginW) 13 := ⟨by omega⟩
      haveI : WIx (hs ++ beginW) 14 := ⟨by omega⟩
      haveI : HGet h' vq _ := ⟨gvs⟩
      refine stp ?_
      refine O.how (XOp.shr (q := 32) (by omega)) ?_
      rw [show ((many : Int)).fdiv (2 ^ (min (32 : Int).toNat IntKind.u64.bits)) = ((many / 4294967296 : Nat) : Int) from by
        rw [show (2 : Int) ^ (min (32 : Int).toNat IntKind.u64.bits) = 4294967296 from rfl, Int.fdiv_eq_ediv_of_nonneg _ (by omega)]; omega]
      refine stp ?_
      refine C.ifB (fun hlast => ?_) (fun hlast => ?_)
      all_goals
        refine stp ?_
        have hn2 := hf.n
        generalize hh4 : h'.set vq _ = h4
        have g4v : h4.get vq = .cells (wcells (startV hs many last)) 0 := by rw [← hh4, Heap.get_set, if_pos rfl, hlast]; rfl
        have g4m : h4.get (h.n + 2) = .cells (wcells (wordsS b)) 0 := by rw [← hh4, Heap.get_set, if_neg (by omega), hf.get _ (by omega) (by omega), g1m]
        have g4h : h4.get h.n = .cells (wcells hs) 0 := by rw [← hh4, Heap.get_set, if_neg (by omega), hf.get _ (by omega) (by omega), g1h]
        have g4o : h4.get (h.n + 1) = .cells (wcells (List.replicate 8 0)) 0 := by rw [← hh4, Heap.get_set, if_neg (by omega), hf.get _ (by omega) (by omega), g1o]
        have hn4 : h4.n = h'.n := by rw [← hh4]; simp
        have hF4 : Fr (fun _ => False) h h4 := by rw [← hh4]; exact Fr.set (Fr.trans (S := fun _ => False) (S' := fun i => i = vq) hF1 hf fun i hi h => by omega) fun h => by omega
        clear hh4 gvs
        have hvl' : (startV hs many last).length = 16 := startV_len hl
        have hwl := wordsS_len b
        generalize hVe : startV hs many last = V at *
        generalize hWe : wordsS b = W at *
        refine zabQ_l4_rule (fun m v13 h' => ∃ r : Nat, r ≤ 10 ∧ m = 10 - r ∧ v13 = .int .i64 r ∧ h'.get vq = .cells (wcells (roundsS W V r)) 0 ∧ Fr (fun i => i = vq) h4 h') ?_ 10 ⟨0, by omega, rfl, rfl, g4v, Fr.refl⟩
        rintro m v13 h5 x14 x15 x16 x92 x93 x94 x95 x96 x97 x98 x99 x100 x101 x102 x103 x104 x105 x106 x107 x108 x109 x110 x111 x112 x113 x114 x115 x116 x117 x118 x119 x120 x121 x122 x123 x124 x125 x126 x127 x128 x129 x130 x131 x132 x133 x134 x135 x136 x137 x138 x139 x140 x141 x142 x143 x144 x145 x146 x147 x148 x149 x150 x151 x152 x153 x154 x155 x156 ⟨r, hr, rfl, rfl, g5v, hf5⟩
        have hn5 := hf5.n
        refine stp ?_
        refine C.if (fun hlt => ?_) (fun hge => ?_)
        · have hr : r < 10 := by omega
          refine stp ?_
          refine O.call' (row_okD hr) (fun r1 h6 hr1 => ?_)
          obtain ⟨rfl, hf6⟩ := hr1
          have hn6 := hf6.n
          have hrl := rowS_len hr
          haveI : NLen (rowS r) 16 := ⟨hrl⟩
          refine stp ?_
          generalize hh7 : h6.push (.cells (icells (rowS r)) 0) = h7
          have g7s : h7.get h6.n = .cells (icells (rowS r)) 0 := by rw [← hh7, Heap.get_push, if_pos rfl]
          have g7v : h7.get vq = .cells (wcells (roundsS W V r)) 0 := by rw [← hh7, Heap.get_push, if_neg (by omega), hf6.get _ (by omega) id, g5v]
          have g7m : h7.get (h.n + 2) = .cells (wcells W) 0 := by rw [← hh7, Heap.get_push, if_neg (by omega), hf6.get _ (by omega) id, hf5.get _ (by omega) (by omega), g4m]
          have hn7 : h7.n = h6.n + 1 := by rw [← hh7]; simp
          have hf7 : Fr (fun i => i = vq) h4 h7 := by rw [← hh7]; exact (hf5.trans' (hf6.mono fun _ _ h => h.elim)).push
          clear hh7
          have hrow : ∀ {h8 : Heap}, h8.get h6.n = .cells (icells (rowS r)) 0 → ∀ j, j < 16 → Cell h8 h6.n j (.int .i64 ((sigma.getD (16 * r + j) 0 : Nat) : Int)) := fun {h8} hg j hj => ⟨by
            rw [cellsAt_of (c := icells (rowS r)) (by rw [hg]; rfl) (by rw [icells_len]; omega), take_one _ _ (by rw [icells_len]; omega)]
            have : ∀ (l : List Nat) (j : Nat), j < l.length → lget (icells l) j = .int .i64 ((l.getD j 0 : Nat) : Int) := by
              intro l
              induction l with
              | nil => intro j hj; simp at hj
              | cons a l ih =>
                intro j hj
                cases j with
                | zero => rfl
                | succ j =>
                  show lget (icells l) j = _
                  rw [ih j (by simpa using hj)]
                  simp
            rw [this _ _ (by omega), rowS_get hr hj]⟩
          refine zabQ_l2_rule (fun m v15 h8 => ∃ i : Nat, i ≤ 4 ∧ m = 4 - i ∧ v15 = .int .i64 i ∧ h8.get vq = .cells (wcells (halfA W r (roundsS W V r) i)) 0 ∧ Fr (fun j => j = vq) h7 h8) ?_ 4 ⟨0, by omega, rfl, rfl, g7v, Fr.refl⟩
          rintro m v15 h8 x98 x99 x100 x101 x102 x103 x104 x105 x106 x107 x108 x109 x110 x111 x112 x113 x114 x115 x116 x117 x118 x119 x120 x121 x122 x123 ⟨i, hi, rfl, rfl, gA, hfA⟩
          have hrl2 : (halfA W r (roundsS W V r) i).length = 16 := by rw [halfA_len, roundsS_len, hvl']
          have hnA := hfA.n
          have g8s : h8.get h6.n = .cells (icells (rowS r)) 0 := by rw [hfA.get _ (by omega) (by omega), g7s]
          refine stp ?_
          refine C.if (fun hlt => ?_) (fun hge => ?_)
          · have hi : i < 4 := by omega
            haveI : HGet h8 vq _ := ⟨gA⟩
            haveI : HGet h8 (h.n + 2) (.cells (wcells W) 0) := ⟨by rw [hfA.get _ (by omega) (by omega), g7m]⟩
            haveI : WLen (halfA W r (roundsS W V r) i) 16 := ⟨hrl2⟩
            have hd0 := (rows_get (show 16 * r + 2 * i < 160 by omega)).2
            have hd1 := (rows_get (show 16 * r + (2 * i + 1) < 160 by omega)).2
            haveI : WIx W (sigma.getD (16 * r + 2 * i) 0) := ⟨by omega⟩
            haveI : WIx W (sigma.getD (16 * r + (2 * i + 1)) 0) := ⟨by omega⟩
            haveI c0 := hrow g8s (2 * i) (by omega)
            haveI c1 := hrow g8s (2 * i + 1) (by omega)
            have e2 : IntKind.i64.wrap (2 * (i : Int)) = 2 * i := mul_in (by omega)
            refine stp ?_
            rw [show 0 + (IntKind.i64.wrap (2 * (i : Int))).toNat * 1 = 2 * i from by rw [e2]; omega]
            refine stp ?_
            rw [show 0 + (IntKind.i64.wrap (2 * (i : Int)) + 1).toNat * 1 = 2 * i + 1 from by rw [e2]; omega]
            refine stp ?_
            rw [show ((i : Int) + 4) = ((4 + i : Nat) : Int) from by omega, show ((i : Int) + 8) = ((8 + i : Nat) : Int) from by omega, show ((i : Int) + 12) = ((12 + i : Nat) : Int) from by omega]
            refine D.callX (mix_okD hrl2 (by omega) (by omega) (by omega) (by omega)) (fun r1 h1' hr1 => rfl) (fun r1 h9 hr1 => ?_) (fun _ _ hx => hx.elim)
            obtain ⟨rfl, hf9⟩ := hr1
            haveI := hf9.keep (S := fun _ => False) (b := vq) ⟨gA⟩ (by omega) id
            haveI : WLen (mixS (halfA W r (roundsS W V r) i) i (4 + i) (8 + i) (12 + i) (W.getD (sigma.getD (16 * r + 2 * i) 0) 0) (W.getD (sigma.getD (16 * r + (2 * i + 1)) 0) 0)) 16 := ⟨by rw [mixS_len, hrl2]⟩
            haveI : LenN (wcells (halfA W r (roundsS W V r) i)) 16 := ⟨by rw [wcells_len, hrl2]⟩
            refine stp ?_
            exact zabQ_l2_again (4 - (i + 1)) (by omega) ⟨i + 1, by omega, rfl, rfl, by rw [Heap.get_set, if_pos rfl]; rfl, Fr.set (Fr.trans' hfA (hf9.mono fun _ _ h => h.elim)) fun _ => rfl⟩
          · obtain rfl : i = 4 := by omega
            refine stp ?_
            clear hge
            refine zabQ_l3_rule (fun m v16 h8 => ∃ i : Nat, i ≤ 4 ∧ m = 4 - i ∧ v16 = .int .i64 i ∧ h8.get vq = .cells (wcells (halfB W r (halfA W r (roundsS W V r) 4) i)) 0 ∧ Fr (fun j => j = vq) h7 h8) ?_ 4 ⟨0, by omega, rfl, rfl, gA, hfA⟩
            rintro m v16 h9 x124 x125 x126 x127 x128 x129 x130 x131 x132 x133 x134 x135 x136 x137 x138 x139 x140 x141 x142 x143 x144 x145 x146 x147 x148 x149 x150 x151 x152 x153 x154 x155 x156 ⟨i, hi, rfl, rfl, gB, hfB⟩
            have hrl3 : (halfB W r (halfA W r (roundsS W V r) 4) i).length = 16 := by rw [halfB_len, hrl2]
            have hnB := hfB.n
            have g9s : h9.get h6.n = .cells (icells (rowS r)) 0 := by rw [hfB.get _ (by omega) (by omega), g7s]
            refine stp ?_
            refine C.if (fun hlt => ?_) (fun hge => ?_)
            · have hi : i < 4 := by omega
              haveI : HGet h9 vq _ := ⟨gB⟩
              haveI : HGet h9 (h.n + 2) (.cells (wcells W) 0) := ⟨by rw [hfB.get _ (by omega) (by omega), g7m]⟩
              haveI : WLen (halfB W r (halfA W r (roundsS W V r) 4) i) 16 := ⟨hrl3⟩
              have hd0 := (rows_get (show 16 * r + (8 + 2 * i) < 160 by omega)).2
              have hd1 := (rows_get (show 16 * r + (9 + 2 * i) < 160 by omega)).2
              haveI : WIx W (sigma.getD (16 * r + (8 + 2 * i)) 0) := ⟨by omega⟩
              haveI : WIx W (sigma.getD (16 * r + (9 + 2 * i)) 0) := ⟨by omega⟩
              haveI c0 := hrow g9s (8 + 2 * i) (by omega)
              haveI c1 := hrow g9s (9 + 2 * i) (by omega)
              have e2 : IntKind.i64.wrap (2 * (i : Int)) = 2 * i := mul_in (by omega)
              refine stp ?_
              refine D.how (XOp.remI (by decide)) rfl ?_
              rw [show ((i : Int) + 1).tmod 4 = ((i + 1) % 4 : Nat) from by rw [Int.tmod_eq_emod_of_nonneg (by omega)]; omega]
              refine stp ?_
              refine D.how (XOp.remI (by decide)) rfl ?_
              rw [show ((i : Int) + 2).tmod 4 = ((i + 2) % 4 : Nat) from by rw [Int.tmod_eq_emod_of_nonneg (by omega)]; omega]
              refine stp ?_
              refine D.how (XOp.remI (by decide)) rfl ?_
              rw [show ((i : Int) + 3).tmod 4 = ((i + 3) % 4 : Nat) from by rw [Int.tmod_eq_emod_of_nonneg (by omega)]; omega]
              refine stp ?_
              rw [show 0 + (8 + IntKind.i64.wrap (2 * (i : Int))).toNat * 1 = 8 + 2 * i from by rw [e2]; omega]
              refine stp ?_
              rw [show 0 + (9 + IntKind.i64.wrap (2 * (i : Int))).toNat * 1 = 9 + 2 * i from by rw [e2]; omega]
              refine stp ?_
              rw [show ((4 : Int) + (((i + 1) % 4 : Nat) : Int)) = ((4 + (i + 1) % 4 : Nat) : Int) from by omega, show ((8 : Int) + (((i + 2) % 4 : Nat) : Int)) = ((8 + (i + 2) % 4 : Nat) : Int) from by omega, show ((12 : Int) + (((i + 3) % 4 : Nat) : Int)) = ((12 + (i + 3) % 4 : Nat) : Int) from by omega]
              refine D.callX (mix_okD hrl3 (by omega) (by omega) (by omega) (by omega)) (fun r1 h1' hr1 => rfl) (fun r1 h10 hr1 => ?_) (fun _ _ hx => hx.elim)
              obtain ⟨rfl, hf10⟩ := hr1
              haveI := hf10.keep (S := fun _ => False) (b := vq) ⟨gB⟩ (by omega) id
              haveI : WLen (mixS (halfB W r (halfA W r (roundsS W V r) 4) i) i (4 + (i + 1) % 4) (8 + (i + 2) % 4) (12 + (i + 3) % 4) (W.getD (sigma.getD (16 * r + (8 + 2 * i)) 0) 0) (W.getD (sigma.getD (16 * r + (9 + 2 * i)) 0) 0)) 16 := ⟨by rw [mixS_len, hrl3]⟩
              haveI : LenN (wcells (halfB W r (halfA W r (roundsS W V r) 4) i)) 16 := ⟨by rw [wcells_len, hrl3]⟩
              refine stp ?_
              exact zabQ_l3_again (4 - (i + 1)) (by omega) ⟨i + 1, by omega, rfl, rfl, by rw [Heap.get_set, if_pos rfl]; rfl, Fr.set (Fr.trans' hfB (hf10.mono fun _ _ h => h.elim)) fun _ => rfl⟩
            · obtain rfl : i = 4 := by omega
              refine stp ?_
              exact zabQ_l4_again (10 - (r + 1)) (by omega) ⟨r + 1, by omega, rfl, rfl, gB, hf7.trans' hfB⟩
        · obtain rfl : r = 10 := by omega
          refine stp ?_
          have hvl5 : (roundsS W V 10).length = 16 := by rw [roundsS_len, hvl']
          have g5h : h5.get h.n = .cells (wcells hs) 0 := by rw [hf5.get _ (by omega) (by omega), g4h]
          have g5o : h5.get (h.n + 1) = .cells (wcells (List.replicate 8 0)) 0 := by rw [hf5.get _ (by omega) (by omega), g4o]
          have hF5 : Fr (fun _ => False) h h5 := Fr.trans (S := fun _ => False) (S' := fun i => i = vq) hF4 hf5 fun i hi h => by omega
          generalize hVV : roundsS W V 10 = VV at *
          refine zabQ_l5_rule (fun m v17 h'' => ∃ k : Nat, k ≤ 8 ∧ m = 8 - k ∧ v17 = .int .i64 k ∧ (∃ hs', h''.get h.n = .cells (wcells hs') 0 ∧ hs'.length = 8 ∧ ∀ j, j < 8 → hs'.getD j 0 = if j < k then hs.getD j 0 ^^^ (VV.getD j 0 ^^^ VV.getD (j + 8) 0) else hs.getD j 0) ∧ Fr (fun i => i = h.n) h5 h'') ?_ 8 ⟨0, by omega, rfl, rfl, ⟨hs, g5h, hl, fun j hj => by rw [if_neg (by omega)]⟩, Fr.refl⟩
          rintro m v17 h'' x157 x158 x159 x160 x161 x162 x163 x164 x165 x166 x167 x168 x169 x170 x171 x172 x173 x174 ⟨k, hk, rfl, rfl, ⟨hs', gp', hl', hgp⟩, hf'⟩
          haveI : HGet h'' h.n _ := ⟨gp'⟩
          haveI : WLen hs' 8 := ⟨hl'⟩
          refine stp ?_
          refine C.if (fun hlt => ?_) (fun hge => ?_)
          · have hk : k < 8 := by omega
            haveI : HGet h'' vq (.cells (wcells VV) 0) := ⟨by rw [hf'.get _ (by omega) (by omega), g5v]⟩
            haveI : WIx VV k := ⟨by omega⟩
            haveI : WIx VV (k + 8) := ⟨by omega⟩
            haveI : WIx hs' k := ⟨by omega⟩
            refine stp ?_
            rw [show 0 + ((k : Int) + 8).toNat * 1 = k + 8 from by omega]
            refine stp ?_
            refine zabQ_l5_again (8 - (k + 1)) (by omega) ⟨k + 1, by omega, rfl, rfl, ⟨_, by rw [Heap.get_set, if_pos rfl], by simpa using hl', fun j hj => ?_⟩, hf'.set fun _ => rfl⟩
            rw [getD_set (by omega)]
            by_cases e : j = k
            · rw [if_pos e, e, if_pos (by omega), hgp k hk, if_neg (by omega), UInt32.xor_assoc]
            · rw [if_neg e, hgp j hj]
              by_cases e2 : j < k
              · rw [if_pos e2, if_pos (by omega)]
              · rw [if_neg e2, if_neg (by omega)]
          · obtain rfl : k = 8 := by omega
            have hout : hs' = outS hs VV := words_ext (by rw [hl']; rfl) fun j hj => by
              rw [hgp j (by omega), if_pos (by omega)]
              simp [outS, List.getD_eq_getElem?_getD, show j < 8 from by omega]
            have hn'' := hf'.n
            haveI : HGet h'' (h.n + 1) (.cells (wcells (List.replicate 8 0)) 0) := ⟨by rw [hf'.get _ (by omega) (by omega), g5o]⟩
            haveI : LenN (wcells (List.replicate 8 0)) 8 := ⟨rfl⟩
            refine stp ?_
            refine ⟨?_, Fr.set (Fr.trans (S := fun _ => False) (S' := fun i => i = h.n) hF5 hf' fun i hi h => by omega) fun h => by omega⟩
            rw [hout, ← hVV, ← hVe, ← hWe]; rfl
end Go.Proofs.Ytmfaepkmiceoeaa.A

namespace Go.Proofs.Ytmfaepkmiceoeaa.A
open Go Go.Vm
set_option maxRecDepth 10000
set_option linter.unusedVariables false
set_option synthInstance.maxSize 1000
set_option synthInstance.maxHeartbeats 200000
def docS (l : List UInt8) (t : Nat) : List UInt32 := if t ≤ full l then stepsS l t else blockS (stepsS l (full l)) (l.drop (64 * full l) ++ List.replicate (64 - (l.length - 64 * full l)) 0) l.length true
theorem docS_len (l : List UInt8) (t : Nat) : (docS l t).length = 8 := by unfold docS; split; exact stepsS_len _ _; exact blockS_len _ _ _ _
set_option maxHeartbeats 4000000 in
theorem Sum_okD {h : Heap} {v : Value} {l : List UInt8} (hv : Rd h 1 v (bcells l) l.length) (hl : 0 < l.length) (hsm : l.length < 1000000) :
    Runs Try.prog T0 (.fn fn_zyQ) [v] h (fun r h' => r = .agg ⟨bcells (sumS l)⟩ ∧ Fr (fun _ => False) h h') (fun _ _ => False) := by
  have hv0 := hv
  obtain ⟨a0, cap0, rfl, hl0, _⟩ := hv
  refine zyQ_runs ?_
  refine stp ?_
  simp only [Heap.n_push]
  generalize hH : (h.push (.cells z32 0)).push (.cells [] 0) = H
  have hHn : H.n = h.n + 2 := by rw [← hH]; rfl
  have gO : HGet H h.n (.cells z32 0) := ⟨by rw [← hH, Heap.get_push, if_neg (by simp), Heap.get_push, if_pos rfl]⟩
  have gE : H.get (h.n + 1) = .cells [] 0 := by rw [← hH, Heap.get_push, if_pos (by simp)]
  have hF : Fr (fun _ => False) h H := by rw [← hH]; exact Fr.refl.push.push
  clear hH
  have hvH := hv0.keep hF fun _ _ => id
  refine O.append (.lit (q := h.n + 1) (by omega) gE) (hvH.new _) (by rw [bcells_len]; omega) (bcells_one l) (by omega) (by omega) (by omega) (fun v' h2 ho2 hf2 hnew2 => ?_)
  rw [Nat.zero_add, List.nil_append] at ho2
  have hn2 := hf2.n
  refine stp ?_
  have hfl : 64 * full l < l.length ∧ l.length ≤ 64 * full l + 64 := by unfold full; omega
  have hOne : ∀ i, ownedBy v' i → h.n < i := fun i hi => by
    rcases hnew2 i hi with e | e
    · have : h.n + 1 = i := e
      omega
    · omega
  have gO2 : h2.get h.n = .cells z32 0 := by rw [hf2.get _ (by omega) (fun e => by have : h.n + 1 = h.n := e; omega), gO.eq]
  have hF2 : Fr (fun _ => False) h h2 := Fr.trans (S := fun _ => False) hF hf2 fun i hi e => by have : h.n + 1 = i := e; omega
  refine zyQ_l0_rule (fun m v3 h' => ∃ k : Nat, k ≤ 64 * full l + 64 - l.length ∧ m = 64 - k ∧ Own h' 1 v3 (bcells (l ++ List.replicate k 0)) (l.length + k) ∧ (∀ i, ownedBy v3 i → h.n < i) ∧ h'.get h.n = .cells z32 0 ∧ h2.n ≤ h'.n ∧ Fr (fun _ => False) h h') ?_ 64 ⟨0, by omega, rfl, by simpa using ho2, hOne, gO2, Nat.le_refl _, hF2⟩
  rintro m v3 h' x11 x12 x13 x14 x15 x16 x17 x18 x19 x20 x21 x22 ⟨k, hk, rfl, ho, hown, gO', hle2, hf⟩
  obtain ⟨a1, cap1, rfl, hl1, hc1⟩ := id ho.rd
  have hn' := hf.n
  refine stp ?_
  refine O.dec (fun h0 => ?_) (fun h0 => ?_)
  · exfalso; omega
  refine stp ?_
  refine O.howT (XOp.remI (by decide)) ?_
  rw [show (((l.length + k : Nat) : Int)).tmod 64 = (((l.length + k) % 64 : Nat) : Int) from by rw [Int.tmod_eq_emod_of_nonneg (by omega)]; omega]
  refine stp ?_
  refine C.ifN (fun hne => ?_) (fun heq => ?_)
  · have hk2 : k < 64 * full l + 64 - l.length := by
      rcases Nat.lt_or_ge k (64 * full l + 64 - l.length) with e | e
      · exact e
      · exfalso; apply hne; omega
    refine stp ?_
    have hpush : Fr (fun _ => False) h' (h'.push (.cells [.int .u8 0] 0)) := Fr.refl.push
    refine O.append (ho.keep hpush fun _ _ => id) (Rd.new (Rd.mk (c := [.int .u8 0]) (by simp) (by rw [cellsAt_of (c := [.int .u8 0]) (by rw [Heap.get_push, if_pos rfl]; rfl) (by simp)]; rfl)) _) (by simp) rfl (by omega) (by omega) (by omega) (fun v'' h3 ho3 hf3 hnew3 => ?_)
    refine stp ?_
    have hs : bcells (l ++ List.replicate k 0) ++ [.int .u8 0] = bcells (l ++ List.replicate (k + 1) 0) := by
      rw [List.replicate_succ', ← List.append_assoc, bcells_append (l ++ List.replicate k 0)]; rfl
    rw [hs] at ho3
    have hn3 := hf3.n
    simp only [Heap.n_push] at hn3 hnew3
    have hk64 : 64 - (k + 1) < 64 - k := by
      have : k < 64 := by omega
      omega
    have hk1 : k + 1 ≤ 64 * full l + 64 - l.length := hk2
    refine zyQ_l0_again (64 - (k + 1)) hk64 ⟨k + 1, hk1, rfl, ho3, fun i hi => ?_, ?_, by omega, Fr.trans (S := fun _ => False) hf.push hf3 fun i hi e => by have := hown i e; omega⟩
    · rcases hnew3 i hi with e | e
      · exact hown i e
      · omega
    · rw [hf3.get _ (by simp; omega) (fun e => by have := hown _ e; omega), Heap.get_push, if_neg (show h.n ≠ h'.n by omega), gO']
  · have hK : k = 64 * full l + 64 - l.length := by omega
    have hAl : (l ++ List.replicate k 0).length = 64 * full l + 64 := by simp; omega
    have hAl' : l.length + k = (l ++ List.replicate k 0).length := by simp
    rw [hAl'] at ho ⊢
    obtain ⟨qa, hsl, hqo⟩ := own_sl ho (by omega)
    have hqa : h.n < qa := by rw [← hAl'] at hqo; exact hown qa hqo
    have hqlt := hsl.lt
    have hblk : ∀ t, t ≤ full l → ((l ++ List.replicate k 0).drop (64 * t)).take 64 = if t < full l then (l.drop (64 * t)).take 64 else l.drop (64 * full l) ++ List.replicate (64 - (l.length - 64 * full l)) 0 := fun t ht => by
      rw [List.drop_append_of_le_length (by omega)]
      split
      · rw [List.take_append_of_le_length (by rw [List.length_drop]; omega)]
      · obtain rfl : t = full l := by omega
        rw [List.take_of_length_le (by simp; omega)]
        congr 2; omega
    generalize hA : l ++ List.replicate k 0 = A at *
    refine stp ?_
    refine O.call' begin_okC (fun r h3 hr => ?_)
    obtain ⟨rfl, hf3⟩ := hr
    have hn3 := hf3.n
    refine stp ?_
    refine O.how XOp.xorI ?_
    rw [show (IntKind.u32.wrap ((BitVec.ofInt IntKind.u32.bits 1779033703 ^^^ BitVec.ofInt IntKind.u32.bits 16842784).toNat : Nat)) = 1795745351 from by decide]
    refine stp ?_
    generalize hH4 : h3.push (.cells _ 0) = H4
    have g4h : H4.get h3.n = .cells (wcells (docS l 0)) 0 := by rw [← hH4, Heap.get_push, if_pos rfl]; rfl
    have hn4 : H4.n = h3.n + 1 := by rw [← hH4]; rfl
    have f4 : Fr (fun _ => False) h' H4 := by rw [← hH4]; exact hf3.push
    clear hH4
    have hsl4 := hsl.keep f4 id
    have gO4 : H4.get h.n = .cells z32 0 := by rw [f4.get _ (by omega) id, gO']
    have hF4 : Fr (fun _ => False) h H4 := hf.trans' f4
    refine zyQ_l1_rule (fun m v5 h5 => ∃ t : Nat, t ≤ full l + 1 ∧ m = full l + 1 - t ∧ v5 = .int .i64 ((64 * t : Nat) : Int) ∧ h5.get h3.n = .cells (wcells (docS l t)) 0 ∧ Fr (fun i => i = h3.n) H4 h5) ?_ (full l + 1) ⟨0, by omega, rfl, rfl, g4h, Fr.refl⟩
    rintro m v5 h5 x28 x29 x30 x31 x32 x33 x34 x35 x36 x37 x38 x39 x40 x41 x42 x43 x44 x45 x46 x47 x48 x49 x50 ⟨t, ht, rfl, rfl, g5, hf5⟩
    have hn5 := hf5.n
    have hdl := docS_len l t
    haveI : HGet h5 h3.n _ := ⟨g5⟩
    haveI : WLen (docS l t) 8 := ⟨hdl⟩
    refine stp ?_
    refine C.if (fun hlt => ?_) (fun hge => ?_)
    · have ht : t ≤ full l := by omega
      obtain ⟨v1, hs1, hop⟩ := (hsl4.keep hf5 (by omega)).part (i := 64 * t) (j := 64 * t + 64) (by omega) (by omega)
      rw [show 64 * t + 64 - 64 * t = 64 from by omega, hblk t ht] at hs1
      refine stp ?_
      refine D.how (hop (fun c hc => bnd_at (K := .i64) rfl (by omega) (by omega)) (bnd_at (K := .i64) rfl rfl (by omega))) rfl ?_
      refine stp ?_
      have hcase : (t < full l ∧ (if ((64 * t : Nat) : Int) + 64 < (l.length : Int) then ((64 * t : Nat) : Int) + 64 else (l.length : Int)) = ((64 * (t + 1) : Nat) : Int)) ∨ (t = full l ∧ (if ((64 * t : Nat) : Int) + 64 < (l.length : Int) then ((64 * t : Nat) : Int) + 64 else (l.length : Int)) = ((l.length : Nat) : Int)) := by
        rcases Nat.lt_or_ge t (full l) with e | e
        · exact .inl ⟨e, by rw [if_pos (by omega)]; omega⟩
        · exact .inr ⟨by omega, by rw [if_neg (by omega)]⟩
      rcases hcase with ⟨e, em⟩ | ⟨e, em⟩
      · rw [em, decide_eq_false (show ¬ (((64 * t : Nat) : Int) + 64 = (A.length : Int)) by omega)]
        rw [if_pos e] at hs1
        refine D.callX (block_okD (many := 64 * (t + 1)) (last := false) hdl hs1 (by rw [List.length_take, List.length_drop]; omega) (by omega)) (fun r1 h1' hr1 => rfl) (fun r1 h6 hr1 => ?_) (fun _ _ hx => hx.elim)
        obtain ⟨rfl, hf6⟩ := hr1
        haveI := hf6.keep (S := fun _ => False) (b := h3.n) ⟨g5⟩ (by omega) id
        rw [show blockS (docS l t) ((l.drop (64 * t)).take 64) (64 * (t + 1)) false = docS l (t + 1) from by
          unfold docS; rw [if_pos ht, if_pos (by omega)]; rfl]
        have hdl2 := docS_len l (t + 1)
        haveI : WLen (docS l (t + 1)) 8 := ⟨hdl2⟩
        haveI : LenN (wcells (docS l t)) 8 := ⟨by rw [wcells_len, hdl]⟩
        refine stp ?_
        exact zyQ_l1_again (full l + 1 - (t + 1)) (by omega) ⟨t + 1, by omega, rfl, by congr 1, by rw [Heap.get_set, if_pos rfl], Fr.set (Fr.trans' hf5 (hf6.mono fun _ _ h => h.elim)) fun _ => rfl⟩
      · rw [em, decide_eq_true (show (((64 * t : Nat) : Int) + 64 = (A.length : Int)) by omega)]
        rw [if_neg (by omega)] at hs1
        refine D.callX (block_okD (many := l.length) (last := true) hdl hs1 (by simp; omega) (by omega)) (fun r1 h1' hr1 => rfl) (fun r1 h6 hr1 => ?_) (fun _ _ hx => hx.elim)
        obtain ⟨rfl, hf6⟩ := hr1
        haveI := hf6.keep (S := fun _ => False) (b := h3.n) ⟨g5⟩ (by omega) id
        rw [show blockS (docS l t) (l.drop (64 * full l) ++ List.replicate (64 - (l.length - 64 * full l)) 0) l.length true = docS l (t + 1) from by
          unfold docS; rw [if_pos ht, if_neg (by omega), e]]
        have hdl2 := docS_len l (t + 1)
        haveI : WLen (docS l (t + 1)) 8 := ⟨hdl2⟩
        haveI : LenN (wcells (docS l t)) 8 := ⟨by rw [wcells_len, hdl]⟩
        refine stp ?_
        exact zyQ_l1_again (full l + 1 - (t + 1)) (by omega) ⟨t + 1, by omega, rfl, by congr 1, by rw [Heap.get_set, if_pos rfl], Fr.set (Fr.trans' hf5 (hf6.mono fun _ _ h => h.elim)) fun _ => rfl⟩
    · obtain rfl : t = full l + 1 := by omega
      refine stp ?_
      have hF5 : Fr (fun _ => False) h h5 := Fr.trans (S := fun _ => False) (S' := fun i => i = h3.n) hF4 hf5 fun i hi e => by omega
      have gO5 : h5.get h.n = .cells z32 0 := by rw [hf5.get _ (by omega) (by omega), gO4]
      have hBS : docS l (full l + 1) = blockS (stepsS l (full l)) (l.drop (64 * full l) ++ List.replicate (64 - (l.length - 64 * full l)) 0) l.length true := by unfold docS; rw [if_neg (by omega)]
      have hsum : bytes32 (docS l (full l + 1)) = sumS l := by rw [hBS]; rfl
      generalize docS l (full l + 1) = BS at *
      generalize hH6 : h5.push (.cells z32 0) = H6
      have g6o : H6.get h5.n = .cells (bcells (List.replicate 32 0)) 0 := by rw [← hH6, Heap.get_push, if_pos rfl]; rfl
      have g6w : H6.get h3.n = .cells (wcells BS) 0 := by rw [← hH6, Heap.get_push, if_neg (by omega), g5]
      have g6O : H6.get h.n = .cells z32 0 := by rw [← hH6, Heap.get_push, if_neg (by omega), gO5]
      have hn6 : H6.n = h5.n + 1 := by rw [← hH6]; rfl
      have hF6 : Fr (fun _ => False) h H6 := by rw [← hH6]; exact hF5.push
      clear hH6
      refine zyQ_l2_rule (fun m v7 h' => ∃ k : Nat, k ≤ 32 ∧ m = 32 - k ∧ v7 = .int .i64 k ∧ (∃ bs : List UInt8, h'.get h5.n = .cells (bcells bs) 0 ∧ bs.length = 32 ∧ ∀ j, j < 32 → bs.getD j 0 = if j < k then outB BS j else 0) ∧ Fr (fun i => i = h5.n) H6 h') ?_ 32 ⟨0, by omega, rfl, rfl, ⟨_, g6o, by simp, fun j hj => by rw [if_neg (by omega)]; simp only [List.getD_eq_getElem?_getD, List.getElem?_replicate, if_pos hj]; rfl⟩, Fr.refl⟩
      rintro m v7 h7 x51 x52 x53 x54 x55 x56 x57 x58 x59 x60 x61 x62 x63 x64 x65 x66 ⟨k, hk, rfl, rfl, ⟨bs, gb, hbl, hb⟩, hf7⟩
      refine stp ?_
      refine C.if (fun hlt => ?_) (fun hge => ?_)
      · have hk : k < 32 := by omega
        haveI : HGet h7 h3.n (.cells (wcells BS) 0) := ⟨by rw [hf7.get _ (by omega) (by omega), g6w]⟩
        haveI : WIx BS (k / 4) := ⟨by omega⟩
        haveI := fun b => put_b (b := b) gb (i := k) (by omega)
        refine stp ?_
        refine O.how (XOp.quoI (by decide)) ?_
        rw [show IntKind.i64.wrap ((k : Int).tdiv 4) = ((k / 4 : Nat) : Int) from by rw [Int.tdiv_eq_ediv_of_nonneg (by omega), mul_in (by omega)]; omega]
        refine stp ?_
        refine O.how (XOp.remI (by decide)) ?_
        rw [show (k : Int).tmod 4 = ((k % 4 : Nat) : Int) from by rw [Int.tmod_eq_emod_of_nonneg (by omega)]; omega]
        have e8 : IntKind.i64.wrap (8 * ((k % 4 : Nat) : Int)) = 8 * ((k % 4 : Nat) : Int) := mul_in (by omega)
        refine stp ?_
        refine O.how (XOp.shrW (8 * (k % 4)) (by rw [e8]; omega) (by omega)) ?_
        refine stp ?_
        rw [u8_of32]
        refine stp ?_
        refine zyQ_l2_again (32 - (k + 1)) (by omega) ⟨k + 1, by omega, rfl, rfl, ⟨_, by rw [Heap.get_set, if_pos rfl], by simpa using hbl, fun j hj => ?_⟩, hf7.set fun _ => rfl⟩
        rw [getD_setB (by omega)]
        by_cases e : j = k
        · rw [if_pos e, e, if_pos (by omega)]; rfl
        · rw [if_neg e, hb j hj]
          by_cases e2 : j < k
          · rw [if_pos e2, if_pos (by omega)]
          · rw [if_neg e2, if_neg (by omega)]
      · obtain rfl : k = 32 := by omega
        have hout : bs = bytes32 BS := bytes_ext (by rw [hbl]; simp [bytes32]) fun j hj => by
          rw [hb j (by omega), if_pos (by omega)]
          simp [bytes32, List.getD_eq_getElem?_getD, show j < 32 from by omega]
        subst hout
        haveI : HGet h7 h5.n _ := ⟨gb⟩
        haveI : HGet h7 h.n (.cells z32 0) := ⟨by rw [hf7.get _ (by omega) (by omega), g6O]⟩
        haveI : L32 (bcells (bytes32 BS)) := ⟨by rw [bcells_len, hbl]⟩
        refine stp ?_
        exact ⟨by rw [hsum], Fr.set (Fr.trans (S := fun _ => False) (S' := fun i => i = h5.n) hF6 hf7 fun i hi e => by omega) fun e => by omega⟩
end Go.Proofs.Ytmfaepkmiceoeaa.A

namespace Go.Proofs.Ytmfaepkmiceoeaa.A
open Go Go.Vm
set_option maxRecDepth 10000
set_option linter.unusedVariables false
inductive OwnL (h : Heap) (size : Nat) : Value → List Value → Nat → Prop
  | own {v : Value} {c : List Value} {n : Nat} : Own h size v c n → OwnL h size v c n
  | lit {q es n : Nat} {c : List Value} : q < h.n → h.get q = .cells c es → c.length = n * size → OwnL h size (.slice (some ⟨q, 0, none⟩) n n) c n
theorem OwnL.rd {h : Heap} {size : Nat} {v : Value} {c : List Value} {n : Nat} (ho : OwnL h size v c n) : Rd h size v c n := by
  cases ho with
  | own ho => exact ho.rd
  | lit hq hg hl => exact Rd.mk hq (by rw [cellsAt_of (by rw [hg]; rfl) (by omega), List.drop_zero, List.take_of_length_le (by omega)])
theorem OwnL.keep {S : Nat → Prop} {h h' : Heap} {size : Nat} {v : Value} {c : List Value} {n : Nat} (ho : OwnL h size v c n) (hf : Fr S h h') (hs : ∀ b, ownedBy v b → ¬ S b) : OwnL h' size v c n := by
  cases ho with
  | own ho => exact .own (ho.keep hf hs)
  | lit hq hg hl => exact .lit (hf.lt hq) (by rw [hf.get _ hq (hs _ rfl), hg]) hl
section
variable {P : Program} {T : Table} {ts : List Value} {ds : List Deferred} {h : Heap} {rd : Option Nat} {v w : Value} {dst size bytes n m el q : Nat} {zero c d : List Value} {zeros : Bool} {x y : Operand} {chk : List (Option Nat × AOp × Option (Nat × Bool))} {pan : Bool} {rest : List AOper} {Q : QP} {F : Value → List Value}
theorem O.appendL [e1 : Ev ts x v] [e2 : Ev ts y w] [s : LSetF ts dst F] (ho : OwnL h size v c n) (hx : newCells h size zero zeros w = some (m, d)) (hd : d.length = m * size) (h1 : d.all Value.oneCell' = true) (hs : size ≠ 0) (hb : bytes < 1048576) (hsm : n + m < 1048576)
    (hk : ∀ v' h', OwnL h' size v' (c ++ d) (n + m) → Fr (ownedBy v) h h' → (∀ i, ownedBy v' i → ownedBy v i ∨ h.n ≤ i) → RunO P T rest ⟨F v', ds, h', rd⟩ Q) : RunO P T (⟨some dst, .append el size bytes zero zeros x y, none, chk, pan⟩ :: rest) ⟨ts, ds, h, rd⟩ Q := by
  cases ho with
  | own ho => exact O.append ho hx hd h1 hs hb hsm fun v' h' h1 h2 h3 => hk v' h' (.own h1) h2 h3
  | lit hq hg hl =>
    rename_i q es
    have hc : cellsAt h q 0 (n * size) = some c := by rw [cellsAt_of (by rw [hg]; rfl) (by omega), List.drop_zero, List.take_of_length_le (by omega)]
    by_cases hm : m = 0
    · subst hm
      have : d = [] := by simpa using hd
      subst this
      have hop : XOp P ts h (.append el size bytes zero zeros x y) (.slice (some ⟨q, 0, none⟩) n n) (h.set q (.cells c es)) := by
        refine ⟨rfl, ?_⟩
        simp only [xop, e1.eq, e2.eq]
        unfold appendOf
        rw [if_neg hs, hx]
        simp only [Nat.add_zero]
        rw [if_neg (by omega), if_pos (Nat.le_refl _)]
        have : putAt h q (0 + n * size) [] = some (h.set q (.cells c es)) := by
          simp only [putAt, hg]
          rw [if_pos ⟨by simp; omega, rfl⟩, over_nil]
        rw [this]
      haveI : LSet ts dst (.slice (some ⟨q, 0, none⟩) n n) (F (.slice (some ⟨q, 0, none⟩) n n)) := ⟨s.eq _⟩
      refine O.how hop (hk _ _ ?_ (Fr.refl.set fun _ => rfl) fun i hi => .inl hi)
      rw [List.append_nil, Nat.add_zero]
      exact .lit (by simpa using hq) (by rw [Heap.get_set, if_pos rfl]) hl
    · have hop : XOp P ts h (.append el size bytes zero zeros x y) (.slice (some ⟨h.n, 0, some 0⟩) (n + m) (n + m)) (h.push (.cells (c ++ d) size)) := by
        refine ⟨rfl, ?_⟩
        simp only [xop, e1.eq, e2.eq]
        unfold appendOf
        rw [if_neg hs, hx]
        simp only
        rw [if_neg (by omega), if_neg (by omega), hc]
      haveI : LSet ts dst (.slice (some ⟨h.n, 0, some 0⟩) (n + m) (n + m)) (F (.slice (some ⟨h.n, 0, some 0⟩) (n + m) (n + m))) := ⟨s.eq _⟩
      refine O.how hop (hk _ _ (.own (.grown (j := []) (by simp) (by omega) (Nat.le_refl _) (by rw [List.length_append, hl, hd, Nat.add_mul]) (by rw [List.append_nil, List.length_append, hl, hd, Nat.add_mul]) (by rw [Heap.get_push, if_pos rfl, List.append_nil]))) Fr.refl.push fun i hi => ?_)
      cases hi
      exact .inr (Nat.le_refl _)
end
theorem Number_okD {h : Heap} {N : Nat} (hN : N ≤ 9223372036854775807) :
    Runs Try.prog T0 (.fn fn_zfbQ) [.int .i64 N] h (fun r h' => OwnL h' 1 r (bcells (numF N)) (numF N).length ∧ (∀ i, ownedBy r i → h.n ≤ i) ∧ Fr (fun _ => False) h h') (fun _ _ => False) := by
  refine zfbQ_runs ?_
  refine stp ?_
  refine zfbQ_l0_rule (fun m v0 v3 h' => ∃ (n k : Nat) (ds : List UInt8), n = m ∧ v0 = .int .i64 n ∧ k ≤ 8 ∧ n < 256 ^ (8 - k) ∧ n ≤ N ∧ ds.length = k ∧ Rd h' 1 v3 (bcells ds) ds.length ∧ beN N = beN n ++ ds ∧ Fr (fun _ => False) h h') ?_ N
    ⟨N, 0, [], rfl, rfl, by omega, by simp; omega, Nat.le_refl _, rfl, Rd.nil, by simp, Fr.refl⟩
  rintro m v0 v3 h' x4 x5 x6 x7 x8 x9 x10 x11 x12 ⟨n, k, ds, hnm, rfl, hk, hn, hnN, hds, hrd, hbe, hf⟩
  subst hnm
  refine stp ?_
  refine C.if (fun hpos => ?_) (fun hz => ?_)
  · have hk8 : k < 8 := by
      rcases Nat.lt_or_ge k 8 with h | h
      · exact h
      · obtain rfl : k = 8 := by omega
        simp at hn; omega
    have h256 : n % 256 < 256 := Nat.mod_lt _ (by omega)
    have hw : (IntKind.wrap .u8 (n : Int)) = (((UInt8.ofNat (n % 256)).toNat : Nat) : Int) := by
      rw [wrap_u8, u8nat h256]
      omega
    refine stp ?_
    rw [hw]
    have hp : Fr (fun _ => False) h' (h'.push (.cells [.int .u8 ((UInt8.ofNat (n % 256)).toNat : Nat)] 0)) := Fr.refl.push
    refine O.appendL (.lit (q := h'.n) (es := 0) (c := [.int .u8 ((UInt8.ofNat (n % 256)).toNat : Nat)]) (by simp) (by rw [Heap.get_push, if_pos rfl]) rfl) ((hrd.keep hp fun _ _ => id).new _) (by rw [bcells_len]; omega) (bcells_one _) (by omega) (by omega) (by omega) (fun v' h2 ho2 hf2 hnew2 => ?_)
    refine stp ?_
    refine O.how XOp.shr8 ?_
    refine stp ?_
    have hdiv : ((n : Int) / 256) = ((n / 256 : Nat) : Int) := by omega
    rw [hdiv]
    refine zfbQ_l0_again (n / 256) (by omega) ⟨n / 256, k + 1, UInt8.ofNat (n % 256) :: ds, rfl, rfl, by omega, ?_, by omega, by simp [hds], ?_, ?_, ?_⟩
    · have : 256 ^ (8 - k) = 256 ^ (8 - (k + 1)) * 256 := by rw [← Nat.pow_succ]; congr 1; omega
      exact Nat.div_lt_of_lt_mul (by omega)
    · have := ho2.rd
      rw [show 1 + ds.length = (UInt8.ofNat (n % 256) :: ds).length from by simp; omega] at this
      exact this
    · rw [hbe, beN_pos (by omega)]
      simp
    · refine Fr.trans (S := fun _ => False) (hf.trans' hp) hf2 fun i hi e => ?_
      have : h'.n = i := e
      have := hf.n
      omega
  · have hn0 : n = 0 := by omega
    subst hn0
    rw [beN_zero, List.nil_append] at hbe
    obtain ⟨a3, c3, rfl, _, _⟩ := id hrd
    have hw : ((ds.length : Nat) : Int) = (((UInt8.ofNat ds.length).toNat : Nat) : Int) := by
      rw [u8nat (by omega)]
    refine stp ?_
    rw [hw]
    have hp : Fr (fun _ => False) h' (h'.push (.cells [.int .u8 ((UInt8.ofNat ds.length).toNat : Nat)] 0)) := Fr.refl.push
    refine O.appendL (.lit (q := h'.n) (es := 0) (c := [.int .u8 ((UInt8.ofNat ds.length).toNat : Nat)]) (by simp) (by rw [Heap.get_push, if_pos rfl]) rfl) ((hrd.keep hp fun _ _ => id).new _) (by rw [bcells_len]; omega) (bcells_one _) (by omega) (by omega) (by omega) (fun v' h2 ho2 hf2 hnew2 => ?_)
    refine stp ?_
    have hlen : (numF N).length = 1 + ds.length := by simp [numF, hbe]; omega
    refine ⟨?_, fun i hi => ?_, ?_⟩
    · rw [hlen, show bcells (numF N) = [.int .u8 ((UInt8.ofNat ds.length).toNat : Nat)] ++ bcells ds from by rw [numF, hbe]; rfl]
      exact ho2
    · have := hf.n
      rcases hnew2 i hi with e | e
      · have : h'.n = i := e
        omega
      · simp at e; omega
    · refine Fr.trans (S := fun _ => False) (hf.trans' hp) hf2 fun i hi e => ?_
      have : h'.n = i := e
      have := hf.n
      omega
end Go.Proofs.Ytmfaepkmiceoeaa.A

namespace Go.Proofs.Ytmfaepkmiceoeaa.A
open Go Go.Vm
set_option maxRecDepth 10000
set_option linter.unusedVariables false
structure DW (h : Heap) (lo p : Nat) (sv : Value) (bs : List UInt8) (lim : Nat) (e : Int) : Prop where
  lt : p < h.n
  le : lo ≤ p
  get : h.get p = .cells [.int .i64 lim, sv, .int .i64 e] 0
  own : Own h 1 sv (bcells bs) bs.length
  apart : ¬ ownedBy sv p
  above : ∀ i, ownedBy sv i → lo ≤ i
  small : bs.length < 1048577
structure DWs (h : Heap) (lo p lim : Nat) (st : WSt) : Prop where
  ex : ∃ sv, DW h lo p sv st.bs lim st.e
theorem DW.keep {S : Nat → Prop} {h h' : Heap} {lo p : Nat} {sv : Value} {bs : List UInt8} {lim : Nat} {e : Int} (hp : DW h lo p sv bs lim e) (hf : Fr S h h') (hs : ¬ S p) (hb : ∀ i, ownedBy sv i → ¬ S i) : DW h' lo p sv bs lim e :=
  ⟨hf.lt hp.lt, hp.le, by rw [hf.get p hp.lt hs, hp.get], hp.own.keep hf hb, hp.apart, hp.above, hp.small⟩
theorem DWs.keep {S : Nat → Prop} {h h' : Heap} {lo p lim : Nat} {st : WSt} (hp : DWs h lo p lim st) (hf : Fr S h h') (hs : ∀ i, S i → i < lo) : DWs h' lo p lim st :=
  let ⟨sv, hw⟩ := hp.ex
  ⟨sv, hw.keep hf (fun h => by have := hs _ h; have := hw.le; omega) fun i hi h => by have := hs _ h; have := hw.above i hi; omega⟩
theorem DWs.none {h h' : Heap} {lo p lim : Nat} {st : WSt} (hp : DWs h lo p lim st) (hf : Fr (fun _ => False) h h') : DWs h' lo p lim st := hp.keep hf fun _ h => h.elim
theorem DWs.lo_le {h : Heap} {lo p lim : Nat} {st : WSt} (hp : DWs h lo p lim st) : lo ≤ h.n := let ⟨_, hw⟩ := hp.ex; Nat.le_of_lt (Nat.lt_of_le_of_lt hw.le hw.lt)
def DWrites (h : Heap) (lo p lim : Nat) (st : WSt) (r : Value) (h' : Heap) : Prop := r = .int .i64 st.e ∧ DWs h' lo p lim st ∧ Fr (fun i => i = p) h h'
theorem Put_okD {h : Heap} {lo p lim : Nat} {st : WSt} {v : Value} {l : List UInt8} (hw : DWs h lo p lim st) (hv : Rd h 1 v (bcells l) l.length) (hlim : lim < 1048576 ∨ st.bs.length + l.length < 1048576) (hs : l.length < 2000000) :
    Runs Try.prog T0 (.fn fn_zjbQ) [.pointer (some ⟨p, 0, none⟩), v] h (DWrites h lo p lim (putS lim true l st)) (fun _ _ => False) := by
  obtain ⟨bs, e⟩ := st
  obtain ⟨sv, hw⟩ := hw.ex
  have hw : DW h lo p sv bs lim e := hw
  have hsum : bs.length + l.length ≤ lim → bs.length + l.length < 1048576 := fun h => by
    rcases hlim with h' | h'
    · omega
    · exact h'
  clear hlim
  have hle := hw.le
  have hlt := hw.lt
  have hsmall := hw.small
  have hv0 := hv
  obtain ⟨a0, cap0, rfl, hl0, _⟩ := hw.own.rd
  obtain ⟨a1, cap1, rfl, hl1, _⟩ := hv
  haveI i0 : HGet h p _ := ⟨hw.get⟩
  haveI : BLt p h := ⟨hlt⟩
  refine zjbQ_runs ?_
  refine stp ?_
  unfold putS
  refine D.dec (fun he => ?_) (fun he => ?_)
  · subst he
    refine stp ?_
    refine C.if (fun hlong => ?_) (fun hfit => ?_)
    · refine stp ?_
      rw [if_neg (by simp), if_neg (by simp), if_pos (show lim < bs.length + l.length by omega)]
      refine ⟨rfl, ⟨.slice a0 bs.length cap0, by simpa using hlt, hle, by rw [Heap.get_set, if_pos rfl], hw.own.keep (S := fun i => i = p) (Fr.refl.set fun _ => rfl) fun i hi hp => hw.apart (hp ▸ hi), hw.apart, hw.above, hsmall⟩, Fr.refl.set fun _ => rfl⟩
    · refine stp ?_
      have hsum := hsum (by omega)
      rw [if_neg (by simp), if_neg (by simp), if_neg (show ¬ lim < bs.length + l.length by omega)]
      have hp0 : Fr (fun _ => False) h (h.push (.cells [] 0)) := Fr.refl.push
      refine O.append (size := 1) (bytes := 1) (n := 0) (c := []) (m := bs.length) (d := bcells bs) (.lit (q := h.n) (es := 0) (by simp) (by rw [Heap.get_push, if_pos rfl])) ((hw.own.rd.keep hp0 fun _ _ => id).new _) (by rw [bcells_len]; omega) (bcells_one _) (by omega) (by omega) (by omega) (fun v1 h1 ho1 hf1 hnew1 => ?_)
      rw [Nat.zero_add, List.nil_append] at ho1
      have f1 : Fr (fun _ => False) h h1 := Fr.trans (S := fun _ => False) hp0 hf1 fun i hi e => by have : h.n = i := e; omega
      have hn1 := hf1.n
      simp only [Heap.n_push] at hn1
      refine stp ?_
      refine O.append ho1 ((hv0.keep f1 fun _ _ => id).new _) (by rw [bcells_len]; omega) (bcells_one _) (by omega) (by omega) (by omega) (fun v2 h2 ho2 hf2 hnew2 => ?_)
      have hown1 : ∀ i, ownedBy v1 i → h.n ≤ i := fun i hi => by
        rcases hnew1 i hi with e | e
        · have : h.n = i := e; omega
        · simp at e; omega
      have f2 : Fr (fun _ => False) h h2 := Fr.trans (S := fun _ => False) f1 hf2 fun i hi e => by have := hown1 i e; omega
      have hown2 : ∀ i, ownedBy v2 i → h.n ≤ i := fun i hi => (hnew2 i hi).elim (hown1 i) fun e => by omega
      obtain ⟨a2, cap2, rfl, hl2, _⟩ := ho2.rd
      haveI := f2.keep i0 hlt id
      refine stp ?_
      refine ⟨rfl, ⟨.slice a2 (bs.length + l.length) cap2, by simpa using f2.lt hlt, hle, by rw [Heap.get_set, if_pos rfl], ?_, fun e => by have := hown2 _ e; omega, fun i hi => by have := hown2 i hi; omega, by simp; omega⟩, Fr.set (f2.mono fun _ _ h => h.elim) fun _ => rfl⟩
      show Own _ 1 (.slice a2 (bs.length + l.length) cap2) (bcells (bs ++ l)) (bs ++ l).length
      rw [bcells_append, List.length_append]
      exact ho2.keep (S := fun i => i = p) (Fr.refl.set fun _ => rfl) fun i hi e => by have := hown2 i hi; omega
  · refine stp ?_
    refine C.if (fun h0 => absurd h0 he) (fun _ => ?_)
    refine stp ?_
    rw [if_pos (by simpa using he)]
    exact ⟨rfl, ⟨_, hw⟩, Fr.refl⟩
theorem Num_okD {h : Heap} {lo p lim : Nat} {st : WSt} {n : Int} (hw : DWs h lo p lim st) (hn : n ≤ 9223372036854775807) (hlim : lim < 1048576 ∨ st.bs.length + 9 < 1048576) :
    Runs Try.prog T0 (.fn fn_zibQ) [.pointer (some ⟨p, 0, none⟩), .int .i64 n] h (DWrites h lo p lim (putS lim (decide (0 ≤ n)) (numF n.toNat) st)) (fun _ _ => False) := by
  obtain ⟨bs, e⟩ := st
  have hlo := hw.lo_le
  have hw0 := hw
  obtain ⟨sv, hw⟩ := hw.ex
  have hw : DW h lo p sv bs lim e := hw
  have hlt := hw.lt
  obtain ⟨a0, cap0, rfl, hl0, _⟩ := hw.own.rd
  haveI i0 : HGet h p _ := ⟨hw.get⟩
  refine zibQ_runs ?_
  refine stp ?_
  refine O.dec (fun hneg => ?_) (fun hpos => ?_)
  · rw [decide_eq_false (show ¬ 0 ≤ n by omega)]
    unfold putS
    refine stp ?_
    refine C.if (fun he => ?_) (fun he => ?_)
    · subst he
      refine stp ?_
      rw [if_neg (by simp), if_pos rfl]
      exact ⟨rfl, ⟨.slice a0 bs.length cap0, by simpa using hlt, hw.le, by rw [Heap.get_set, if_pos rfl], hw.own.keep (S := fun i => i = p) (Fr.refl.set fun _ => rfl) fun i hi hp => hw.apart (hp ▸ hi), hw.apart, hw.above, hw.small⟩, Fr.refl.set fun _ => rfl⟩
    · refine stp ?_
      refine C.ifN (fun _ => ?_) (fun h0 => absurd h0 he)
      refine stp ?_
      rw [if_pos (by simpa using he)]
      exact ⟨rfl, ⟨_, hw⟩, Fr.refl⟩
  · rw [decide_eq_true (show 0 ≤ n by omega)]
    refine stp ?_
    refine C.ifN (fun he => ?_) (fun he => ?_)
    · refine stp ?_
      unfold putS
      rw [if_pos (by simpa using he)]
      exact ⟨rfl, ⟨_, hw⟩, Fr.refl⟩
    · subst he
      refine stp ?_
      have e0 : n = ((n.toNat : Nat) : Int) := by omega
      have hfl := numF_len (n := n.toNat) (by omega)
      have kN := Number_okD (h := h) (N := n.toNat) (by omega)
      rw [← e0] at kN
      refine O.call' kN (fun r h1 hr => ?_)
      obtain ⟨ho, hnew, hf⟩ := hr
      refine stp ?_
      refine O.call' (Put_okD (l := numF n.toNat) (hw0.none hf) ho.rd (hlim.imp id fun h => by have h : bs.length + 9 < 1048576 := h; show bs.length + _ < _; omega) (by omega)) (fun r h2 hr => ?_)
      obtain ⟨rfl, hw2, hf2⟩ := hr
      refine stp ?_
      exact ⟨rfl, hw2, Fr.trans' (hf.mono fun _ _ h => h.elim) hf2⟩
theorem NewWriter_okD {h : Heap} {lim : Nat} (hl : lim ≤ 1048576) :
    Runs Try.prog T0 (.fn fn_zebQ) [.int .i64 lim] h (fun r h' => r = .tuple ⟨[.pointer (some ⟨h.n, 0, none⟩), .int .i64 0]⟩ ∧ DWs h' h.n h.n lim ⟨[], 0⟩ ∧ Fr (fun _ => False) h h') (fun _ _ => False) := by
  refine zebQ_runs ?_
  refine stp ?_
  refine C.if (fun h1 => by omega) (fun _ => ?_)
  refine stp ?_
  refine ⟨rfl, ⟨.slice none 0 0, by simp, Nat.le_refl _, by rw [Heap.get_push, if_pos rfl], .none, fun h => h, fun i h => h.elim, by simp⟩, Fr.refl.push⟩
theorem Done_okD {h : Heap} {lo p lim : Nat} {st : WSt} (hw : DWs h lo p lim st) (hs : st.bs.length < 1048576) :
    Runs Try.prog T0 (.fn fn_zgbQ) [.pointer (some ⟨p, 0, none⟩)] h
      (fun r h' => ∃ v, r = .tuple ⟨[v, .int .i64 st.e]⟩ ∧ Own h' 1 v (bcells (if st.e = 0 then st.bs else [])) (if st.e = 0 then st.bs else []).length ∧ (∀ i, ownedBy v i → h.n ≤ i) ∧ Fr (fun _ => False) h h') (fun _ _ => False) := by
  obtain ⟨bs, e⟩ := st
  obtain ⟨sv, hw⟩ := hw.ex
  have hw : DW h lo p sv bs lim e := hw
  have hs : bs.length < 1048576 := hs
  obtain ⟨a0, cap0, rfl, hl0, _⟩ := hw.own.rd
  haveI : HGet h p _ := ⟨hw.get⟩
  haveI : BLt p h := ⟨hw.lt⟩
  refine zgbQ_runs ?_
  refine stp ?_
  refine C.ifN (fun he => ?_) (fun he => ?_)
  · refine stp ?_
    rw [if_neg he]
    exact ⟨_, rfl, .none, fun i h => h.elim, Fr.refl⟩
  · subst he
    refine stp ?_
    have hp0 : Fr (fun _ => False) h (h.push (.cells [] 0)) := Fr.refl.push
    refine O.append (size := 1) (bytes := 1) (n := 0) (c := []) (m := bs.length) (d := bcells bs) (.lit (q := h.n) (es := 0) (by simp) (by rw [Heap.get_push, if_pos rfl])) ((hw.own.rd.keep hp0 fun _ _ => id).new _) (by rw [bcells_len]; omega) (bcells_one _) (by omega) (by omega) (by omega) (fun v1 h1 ho1 hf1 hnew1 => ?_)
    rw [Nat.zero_add, List.nil_append] at ho1
    refine stp ?_
    refine ⟨v1, rfl, ho1, fun i hi => ?_, Fr.trans (S := fun _ => False) hp0 hf1 fun i hi e => by have : h.n = i := e; omega⟩
    rcases hnew1 i hi with e | e
    · have : h.n = i := e; omega
    · simp at e; omega
end Go.Proofs.Ytmfaepkmiceoeaa.A

namespace Go.Proofs.Ytmfaepkmiceoeaa.A
open Go Go.Vm
set_option maxRecDepth 10000
set_option linter.unusedVariables false
theorem u8eq {a b : UInt8} : ((a.toNat : Int) = (b.toNat : Int)) ↔ a = b := by
  rw [Int.ofNat_inj, UInt8.toNat_inj]
theorem u8lt {a b : UInt8} : ((a.toNat : Int) < (b.toNat : Int)) ↔ a < b := by
  rw [Int.ofNat_lt, UInt8.lt_iff_toNat_lt]
theorem Less_ok {h : Heap} {a0 a1 a2 a3 b0 b1 b2 b3 : UInt8} :
    Runs Try.prog T0 (.fn fn_zobQ) [.agg ⟨[.int .u8 a0.toNat, .int .u8 a1.toNat, .int .u8 a2.toNat, .int .u8 a3.toNat]⟩, .agg ⟨[.int .u8 b0.toNat, .int .u8 b1.toNat, .int .u8 b2.toNat, .int .u8 b3.toNat]⟩] h
      (fun r h' => r = .bool (keyLt [a0, a1, a2, a3] [b0, b1, b2, b3]) ∧ Fr (fun _ => False) h h') (fun _ _ => False) := by
  refine zobQ_runs ?_
  refine stpP ?_
  rw [keyLt4]
  generalize hh : (h.push (.cells [.int .u8 a0.toNat, .int .u8 a1.toNat, .int .u8 a2.toNat, .int .u8 a3.toNat] 0)).push (.cells [.int .u8 b0.toNat, .int .u8 b1.toNat, .int .u8 b2.toNat, .int .u8 b3.toNat] 0) = h0
  have hA : HGet h0 h.n (.cells [.int .u8 a0.toNat, .int .u8 a1.toNat, .int .u8 a2.toNat, .int .u8 a3.toNat] 0) := by rw [← hh]; exact HGet.push (k := BLt.new) (g := HGet.new)
  generalize hb : (h.push (.cells [.int .u8 a0.toNat, .int .u8 a1.toNat, .int .u8 a2.toNat, .int .u8 a3.toNat] 0)).n = b
  have hB : HGet h0 b (.cells [.int .u8 b0.toNat, .int .u8 b1.toNat, .int .u8 b2.toNat, .int .u8 b3.toNat] 0) := by rw [← hh, ← hb]; exact HGet.new
  have hf : Fr (fun _ => False) h h0 := by rw [← hh]; exact Fr.refl.push.push
  clear hh hb
  haveI := hA
  haveI := hB
  refine zobQ_l0_rule (fun m v5 h' => ∃ k : Nat, k ≤ 4 ∧ m = 4 - k ∧ v5 = .int .i64 k ∧ h' = h0 ∧ (0 < k → a0 = b0) ∧ (1 < k → a1 = b1) ∧ (2 < k → a2 = b2) ∧ (3 < k → a3 = b3)) ?_ 4 ⟨0, by omega, rfl, rfl, rfl, by omega, by omega, by omega, by omega⟩
  rintro m v5 h' x4 x6 x7 x8 x9 x10 x11 x12 x13 x14 x15 x16 x17 x18 x19 x20 x21 x22 x23 ⟨k, hk, rfl, rfl, rfl, e0, e1, e2, e3⟩
  rcases (show k = 0 ∨ k = 1 ∨ k = 2 ∨ k = 3 ∨ k = 4 by omega) with rfl | rfl | rfl | rfl | rfl
  · refine stpP ?_
    refine C.ifN (fun hne => ?_) (fun heq => ?_)
    · refine stpP ?_
      rw [if_pos (fun h => hne (u8eq.2 h))]
      exact ⟨by congr 1; exact decide_eq_decide.2 u8lt, hf⟩
    · refine stpP ?_
      exact zobQ_l0_again 3 (by omega) ⟨1, by omega, rfl, rfl, rfl, fun _ => u8eq.1 heq, by omega, by omega, by omega⟩
  · refine stpP ?_
    refine C.ifN (fun hne => ?_) (fun heq => ?_)
    · refine stpP ?_
      rw [if_neg (fun h => h (e0 (by omega))), if_pos (fun h => hne (u8eq.2 h))]
      exact ⟨by congr 1; exact decide_eq_decide.2 u8lt, hf⟩
    · refine stpP ?_
      exact zobQ_l0_again 2 (by omega) ⟨2, by omega, rfl, rfl, rfl, fun _ => e0 (by omega), fun _ => u8eq.1 heq, by omega, by omega⟩
  · refine stpP ?_
    refine C.ifN (fun hne => ?_) (fun heq => ?_)
    · refine stpP ?_
      rw [if_neg (fun h => h (e0 (by omega))), if_neg (fun h => h (e1 (by omega))), if_pos (fun h => hne (u8eq.2 h))]
      exact ⟨by congr 1; exact decide_eq_decide.2 u8lt, hf⟩
    · refine stpP ?_
      exact zobQ_l0_again 1 (by omega) ⟨3, by omega, rfl, rfl, rfl, fun _ => e0 (by omega), fun _ => e1 (by omega), fun _ => u8eq.1 heq, by omega⟩
  · refine stpP ?_
    refine C.ifN (fun hne => ?_) (fun heq => ?_)
    · refine stpP ?_
      rw [if_neg (fun h => h (e0 (by omega))), if_neg (fun h => h (e1 (by omega))), if_neg (fun h => h (e2 (by omega))), if_pos (fun h => hne (u8eq.2 h))]
      exact ⟨by congr 1; exact decide_eq_decide.2 u8lt, hf⟩
    · refine stpP ?_
      exact zobQ_l0_again 0 (by omega) ⟨4, by omega, rfl, rfl, rfl, fun _ => e0 (by omega), fun _ => e1 (by omega), fun _ => e2 (by omega), fun _ => u8eq.1 heq⟩
  · refine stpP ?_
    rw [if_neg (fun h => h (e0 (by omega))), if_neg (fun h => h (e1 (by omega))), if_neg (fun h => h (e2 (by omega))), if_neg (fun h => h (e3 (by omega)))]
    exact ⟨rfl, hf⟩
set_option maxHeartbeats 4000000 in
theorem RVCheck_ok {h : Heap} {v : Value} {l : List Val} (hv : Rd h 5 v (vcells l) l.length) :
    Runs Try.prog T0 (.fn fn_zkbQ) [v] h (fun r h' => r = .int .i64 (checkV l) ∧ Fr (fun _ => False) h h') (fun _ _ => False) := by
  obtain ⟨a, cap, rfl, hlen, hc⟩ := hv
  refine zkbQ_runs ?_
  refine stpP ?_
  unfold checkV
  refine C.if (fun h0 => ?_) (fun h0 => ?_)
  · refine stpP ?_
    rw [if_pos (by omega)]
    exact ⟨rfl, Fr.refl⟩
  rw [if_neg (by omega)]
  refine stpP ?_
  refine C.if (fun h1 => ?_) (fun h1 => ?_)
  · refine stpP ?_
    rw [if_pos (by omega)]
    exact ⟨rfl, Fr.refl⟩
  rw [if_neg (by omega)]
  obtain ⟨b, o, sp, rfl, hb, hcc⟩ := hc (by omega)
  refine stpP ?_
  refine zkbQ_l0_rule (fun m v3 h' => ∃ k : Nat, k ≤ l.length ∧ m = l.length - k ∧ v3 = .int .i64 k ∧ Fr (fun _ => False) h h' ∧ stepsV 1 none l = stepsV 1 (lastV l k) (l.drop k)) ?_ l.length ⟨0, by omega, rfl, rfl, Fr.refl, rfl⟩
  rintro m v3 h' x2 x12 x13 x14 x15 x16 x17 x18 x19 x20 x21 x22 x23 x24 x25 x26 x27 x28 x29 x30 x31 x32 x33 x34 x35 x36 x37 x38 x39 x40 x41 x42 x43 x44 x45 x46 x47 x48 x49 x50 ⟨k, hk, rfl, rfl, hf, hst⟩
  refine stpP ?_
  refine C.if (fun hlt => ?_) (fun hge => ?_)
  · have hlt : k < l.length := by omega
    have hcc' : cellsAt h' b o (l.length * 5) = some (vcells l) := by rw [cellsAt_keep hf hb id]; exact hcc
    haveI := val_power hcc' rfl hlt
    haveI := val_key hcc' rfl hlt
    have hin : ∀ x : Val, (0 < k → keyLt x.key (l.getD k zVal).key = true) → atS x (decide (0 < k)) 1 4611686018427387904 (l.getD k zVal) = if (l.getD k zVal).p < 1 ∨ 4611686018427387904 < (l.getD k zVal).p then 3 else 0 := fun x hx => by
      unfold atS
      rw [if_neg]
      by_cases h0 : 0 < k
      · rw [hx h0]; simp
      · simp [h0]
    refine stpP ?_
    refine D.dec (fun h0 => ?_) (fun h0 => ?_)
    · obtain ⟨j, rfl⟩ : ∃ j, k = j + 1 := ⟨k - 1, by omega⟩
      haveI := val_key (k := j) hcc' rfl (by omega)
      refine stpP ?_
      rw [show ((j + 1 : Nat) : Int) - 1 = (j : Nat) from by omega]
      refine D.howT (XOp.mkIndexSl (by omega)) rfl ?_
      refine stpP ?_
      refine D.howT (XOp.mkIndexSl (by omega)) rfl ?_
      refine stpP ?_
      refine D.callT (Less_ok) (fun _ _ _ => rfl) (fun r h2 hr => ?_)
      obtain ⟨rfl, hf2⟩ := hr
      have hf2' := hf.trans' hf2
      have hcc2 : cellsAt h2 b o (l.length * 5) = some (vcells l) := by rw [cellsAt_keep hf2 (hf.lt hb) id]; exact hcc'
      haveI := val_power hcc2 rfl hlt
      rw [stepsV_atS (x := l.getD j zVal) hlt (fun _ => rfl)] at hst
      refine stpP ?_
      refine C.ifB (fun hb => ?_) (fun hb => ?_)
      · have hb : keyLt (l.getD j zVal).key (l.getD (j + 1) zVal).key = false := by simpa using hb
        refine stpP ?_
        rw [hst]
        unfold atS
        rw [hb]
        exact ⟨rfl, hf2'⟩
      · have hb : keyLt (l.getD j zVal).key (l.getD (j + 1) zVal).key = true := by simpa using hb
        rw [hin _ (fun _ => hb)] at hst
        refine stpP ?_
        refine O.dec (fun h1 => ?_) (fun h1 => ?_)
        · refine stpP ?_
          rw [hst, if_pos (show (l.getD (j + 1) zVal).p < 1 ∨ 4611686018427387904 < (l.getD (j + 1) zVal).p from .inl h1)]
          rw [if_neg (show ¬ ((3 : Int) = 0) by decide)]
          exact ⟨rfl, hf2'⟩
        · refine stpP ?_
          refine C.if (fun h3 => ?_) (fun h3 => ?_)
          · refine stpP ?_
            rw [hst, if_pos (show (l.getD (j + 1) zVal).p < 1 ∨ 4611686018427387904 < (l.getD (j + 1) zVal).p from .inr h3)]
            rw [if_neg (show ¬ ((3 : Int) = 0) by decide)]
            exact ⟨rfl, hf2'⟩
          · rw [if_neg (show ¬ ((l.getD (j + 1) zVal).p < 1 ∨ 4611686018427387904 < (l.getD (j + 1) zVal).p) by omega), if_pos rfl] at hst
            refine stpP ?_
            exact zkbQ_l0_again (l.length - (j + 1 + 1)) (by omega) ⟨j + 1 + 1, by omega, rfl, rfl, hf2', hst⟩
    · obtain rfl : k = 0 := by omega
      rw [stepsV_atS (x := zVal) hlt (fun h => absurd h (by omega)), hin _ (fun h => absurd h (by omega))] at hst
      refine stpP ?_
      refine O.dec (fun h1 => ?_) (fun h1 => ?_)
      · refine stpP ?_
        rw [hst, if_pos (show (l.getD 0 zVal).p < 1 ∨ 4611686018427387904 < (l.getD 0 zVal).p from .inl h1)]
        rw [if_neg (show ¬ ((3 : Int) = 0) by decide)]
        exact ⟨rfl, hf⟩
      · refine stpP ?_
        refine C.if (fun h3 => ?_) (fun h3 => ?_)
        · refine stpP ?_
          rw [hst, if_pos (show (l.getD 0 zVal).p < 1 ∨ 4611686018427387904 < (l.getD 0 zVal).p from .inr h3)]
          rw [if_neg (show ¬ ((3 : Int) = 0) by decide)]
          exact ⟨rfl, hf⟩
        · rw [if_neg (show ¬ ((l.getD 0 zVal).p < 1 ∨ 4611686018427387904 < (l.getD 0 zVal).p) by omega), if_pos rfl] at hst
          refine stpP ?_
          exact zkbQ_l0_again (l.length - (0 + 1)) (by omega) ⟨0 + 1, by omega, rfl, rfl, hf, hst⟩
  · obtain rfl : k = l.length := by omega
    refine stpP ?_
    rw [hst, List.drop_length]
    exact ⟨rfl, hf⟩
end Go.Proofs.Ytmfaepkmiceoeaa.A

namespace Go.Proofs.Ytmfaepkmiceoeaa.A
open Go Go.Vm
set_option maxRecDepth 10000
set_option linter.unusedVariables false
theorem Key_okD {h : Heap} {lo p lim : Nat} {st : WSt} {v : Val} (hw : DWs h lo p lim st) (hlim : lim < 1048576 ∨ st.bs.length + 4 < 1048576) :
    Runs Try.prog T0 (.fn fn_zhbQ) [.pointer (some ⟨p, 0, none⟩), .agg ⟨[.int .u8 v.k0.toNat, .int .u8 v.k1.toNat, .int .u8 v.k2.toNat, .int .u8 v.k3.toNat]⟩] h (DWrites h lo p lim (putS lim true v.key st)) (fun _ _ => False) := by
  refine zhbQ_runs ?_
  refine stp ?_
  have hp : Fr (fun _ => False) h ((h.push (.cells (bcells v.key) 0)).push (.cells [] 0)) := Fr.refl.push.push
  refine O.append (size := 1) (bytes := 1) (n := 0) (c := []) (m := 4) (d := bcells v.key) (.lit (q := h.n + 1) (es := 0) (by simp) (by rw [Heap.get_push, if_pos (by simp)])) (Rd.new (Rd.mk (by simp; omega) (by rw [cellsAt_of (c := bcells v.key) (by rw [Heap.get_push, if_neg (by simp), Heap.get_push, if_pos rfl]; rfl) (by simp [bcells_len]), List.drop_zero, List.take_of_length_le (by simp [bcells_len])])) _) (by simp [bcells_len]) (bcells_one _) (by omega) (by omega) (by omega) (fun v1 h1 ho1 hf1 hnew1 => ?_)
  rw [Nat.zero_add, List.nil_append] at ho1
  have f1 : Fr (fun _ => False) h h1 := Fr.trans (S := fun _ => False) hp hf1 fun i hi e => by have : h.n + 1 = i := e; omega
  refine stp ?_
  refine O.call' (Put_okD (l := v.key) (hw.none f1) ho1.rd hlim (by simp)) (fun r h2 hr => ?_)
  obtain ⟨rfl, hw2, hf2⟩ := hr
  refine stp ?_
  exact ⟨rfl, hw2, Fr.trans' (f1.mono fun _ _ h => h.elim) hf2⟩
theorem RVEncode_ok {h : Heap} {v : Value} {l : List Val} (hv : Rd h 5 v (vcells l) l.length) (hs : l.length < 1048576) : Runs Try.prog T0 (.fn fn_zlbQ) [v] h
    (fun r h' => ∃ w, r = .tuple ⟨[w, .int .i64 (checkV l)]⟩ ∧ Own h' 1 w (bcells (if checkV l = 0 then encV l else [])) (if checkV l = 0 then encV l else []).length ∧ (∀ i, ownedBy w i → h.n ≤ i) ∧ Fr (fun _ => False) h h') (fun _ _ => False) := by
  have k1 := RVCheck_ok hv
  obtain ⟨a, cap, rfl, hlen, hc⟩ := hv
  refine zlbQ_runs ?_
  refine stp ?_
  refine O.call' k1 (fun r h1 hr => ?_)
  obtain ⟨rfl, hf1⟩ := hr
  have hn1 := hf1.n
  refine stp ?_
  refine C.ifN (fun hc => ?_) (fun hz => ?_)
  · refine stp ?_
    rw [if_neg hc]
    exact ⟨_, rfl, .none, fun i h => h.elim, hf1⟩
  · refine stp ?_
    obtain ⟨c1, c2, c3, c4⟩ := checkV_ok hz
    obtain ⟨b, o, sp, rfl, hb, hcc⟩ := hc (by omega)
    have hnl := numF_len (n := l.length) (by omega)
    refine O.call' (NewWriter_okD (lim := 65536) (by omega)) (fun r h2 hr => ?_)
    obtain ⟨rfl, hw2, hf2⟩ := hr
    have hn2 := hf2.n
    refine stp ?_
    refine O.call' (Num_okD hw2 (by omega) (.inl (by omega))) (fun r h3 hr => ?_)
    obtain ⟨rfl, hw3, hf3⟩ := hr
    have hn3 := hf3.n
    rw [decide_eq_true (by omega), putS_fit (by simp only [List.length_nil, Int.toNat_natCast]; omega), List.nil_append, Int.toNat_natCast] at hw3
    have f03 : Fr (fun i => h1.n ≤ i) h h3 := Fr.trans (S := fun i => h1.n ≤ i) (hf1.mono fun _ _ h => h.elim) (Fr.trans (S := fun i => h1.n ≤ i) (hf2.mono fun _ _ h => h.elim) hf3 fun i _ e => by omega) fun _ _ h => h
    refine stp ?_
    refine zlbQ_l0_rule (fun m v7 h' => ∃ k : Nat, k ≤ l.length ∧ m = l.length - k ∧ v7 = .int .i64 k ∧ DWs h' h1.n h1.n 65536 ⟨numF l.length ++ bodyV (l.take k), 0⟩ ∧ Fr (fun i => h1.n ≤ i) h h') ?_ l.length ⟨0, by omega, rfl, rfl, by simpa [bodyV] using hw3, f03⟩
    rintro m v7 h' x21 x22 x23 x24 x25 x26 x27 x28 x29 x30 x31 x32 x33 x34 x35 x36 x37 x38 x39 x40 ⟨k, hk, rfl, rfl, hw, hf⟩
    refine stp ?_
    refine C.if (fun hlt => ?_) (fun hge => ?_)
    · have hlt : k < l.length := by omega
      have hcc' : cellsAt h' b o (l.length * 5) = some (vcells l) := by rw [cellsAt_keep hf hb (by omega)]; exact hcc
      haveI := val_key hcc' rfl hlt
      have hr := c4 _ (getD_mem hlt)
      have hbl := bodyV_len (l := l.take k) fun v hv => c4 v (List.mem_of_mem_take hv)
      rw [List.length_take] at hbl
      have hmin : min k l.length = k := by omega
      rw [hmin] at hbl
      have hpl := numF_len (n := (l.getD k zVal).p.toNat) (by omega)
      refine stp ?_
      refine O.call' (Key_okD (v := l.getD k zVal) hw (.inl (by omega))) (fun r h4 hr => ?_)
      obtain ⟨rfl, hw4, hf4⟩ := hr
      rw [putS_fit (by simp only [List.length_append, List.length_cons, List.length_nil]; omega)] at hw4
      have hn4 := hf4.n
      have f4 : Fr (fun i => h1.n ≤ i) h h4 := Fr.trans (S := fun i => h1.n ≤ i) hf hf4 fun i _ e => by omega
      have hcc4 : cellsAt h4 b o (l.length * 5) = some (vcells l) := by rw [cellsAt_keep f4 hb (by omega)]; exact hcc
      haveI := val_power hcc4 rfl hlt
      refine stp ?_
      refine O.call' (Num_okD hw4 (by omega) (.inl (by omega))) (fun r h5 hr => ?_)
      obtain ⟨rfl, hw5, hf5⟩ := hr
      rw [decide_eq_true (by omega), putS_fit (by simp only [List.length_append, List.length_cons, List.length_nil]; omega)] at hw5
      refine stp ?_
      refine zlbQ_l0_again (l.length - (k + 1)) (by omega) ⟨k + 1, by omega, rfl, rfl, ?_, Fr.trans (S := fun i => h1.n ≤ i) f4 hf5 fun i _ e => by omega⟩
      rw [bodyV_take hlt, ← List.append_assoc, ← List.append_assoc]
      exact hw5
    · obtain rfl : k = l.length := by omega
      rw [List.take_length] at hw
      refine stp ?_
      have hel := encV_len hz
      refine O.call' (Done_okD hw (by show (encV l).length < _; omega)) (fun r h4 hr => ?_)
      obtain ⟨w, rfl, ho, hnew, hf4⟩ := hr
      refine stp ?_
      rw [hz] at *
      rw [if_pos rfl]
      refine ⟨w, rfl, by simpa [encV] using ho, fun i hi => ?_, Fr.trans (S := fun _ => False) (S' := fun i => h1.n ≤ i) Fr.refl (hf.trans' (hf4.mono fun _ _ h => h.elim)) fun i hi h => by omega⟩
      have := hnew i hi
      have := hf.n
      omega
end Go.Proofs.Ytmfaepkmiceoeaa.A

namespace Go.Proofs.Ytmfaepkmiceoeaa.A
open Go Go.Vm
set_option maxRecDepth 10000
set_option linter.unusedVariables false
theorem VHash_ok {h : Heap} {v : Value} {l : List Val} (hv : Rd h 5 v (vcells l) l.length) : Runs Try.prog T0 (.fn fn_zdcQ) [v] h
    (fun r h' => r = .tuple ⟨[.agg ⟨bcells (if checkV l = 0 then sumS (encV l) else zb32)⟩, .int .i64 (checkV l)]⟩ ∧ Fr (fun _ => False) h h') (fun _ _ => False) := by
  have k1 := VEncode_ok (hv.keep (S := fun _ => False) (Fr.refl.push (o := .cells z32 0)) fun _ _ => id)
  obtain ⟨a, cap, rfl, hlen, hc⟩ := hv
  refine zdcQ_runs ?_
  refine stp ?_
  refine O.call' k1 (fun r h1 hr => ?_)
  obtain ⟨w, rfl, ho, hnew, hf⟩ := hr
  have hn1 := hf.n
  simp only [Heap.n_push] at hn1
  have hf1 : Fr (fun _ => False) h h1 := Fr.trans (S := fun _ => False) Fr.refl.push hf fun _ _ h => h
  haveI gO : HGet h1 h.n (.cells z32 0) := hf.keep (b := h.n) HGet.new (by simp) id
  haveI : BLt h.n h1 := ⟨by omega⟩
  refine stp ?_
  refine C.ifN (fun he => ?_) (fun he => ?_)
  · refine stp ?_
    rw [if_neg he]
    exact ⟨rfl, Fr.set hf1 fun h => by omega⟩
  · rw [if_pos he] at ho ⊢
    have hel := encV_len he
    have hpos : 0 < (encV l).length := by simp [encV, numF]
    refine stp ?_
    refine O.call' (Sum_ok ho.rd hpos (by omega)) (fun r h3 hr => ?_)
    obtain ⟨rfl, hf3⟩ := hr
    have hn3 := hf3.n
    have hsl := sumS_len (encV l)
    haveI : L32 (bcells (sumS (encV l))) := ⟨by rw [bcells_len, hsl]⟩
    haveI := hf3.keep gO (by omega) id
    haveI : BLt h.n h3 := ⟨by omega⟩
    rw [he]
    refine stp ?_
    exact ⟨rfl, Fr.set (Fr.trans (S := fun _ => False) hf1 hf3 fun _ _ h => h) fun h => by omega⟩
theorem RVHash_ok {h : Heap} {v : Value} {l : List Val} (hv : Rd h 5 v (vcells l) l.length) (hs : l.length < 1048576) : Runs Try.prog T0 (.fn fn_znbQ) [v] h
    (fun r h' => r = .tuple ⟨[.agg ⟨bcells (if checkV l = 0 then sumS (encV l) else zb32)⟩, .int .i64 (checkV l)]⟩ ∧ Fr (fun _ => False) h h') (fun _ _ => False) := by
  have k1 := RVEncode_ok (hv.keep (S := fun _ => False) (Fr.refl.push (o := .cells z32 0)) fun _ _ => id) hs
  obtain ⟨a, cap, rfl, hlen, hc⟩ := hv
  refine znbQ_runs ?_
  refine stp ?_
  refine O.call' k1 (fun r h1 hr => ?_)
  obtain ⟨w, rfl, ho, hnew, hf⟩ := hr
  have hn1 := hf.n
  simp only [Heap.n_push] at hn1
  have hf1 : Fr (fun _ => False) h h1 := Fr.trans (S := fun _ => False) Fr.refl.push hf fun _ _ h => h
  haveI gO : HGet h1 h.n (.cells z32 0) := hf.keep (b := h.n) HGet.new (by simp) id
  haveI : BLt h.n h1 := ⟨by omega⟩
  refine stp ?_
  refine C.ifN (fun he => ?_) (fun he => ?_)
  · refine stp ?_
    rw [if_neg he]
    exact ⟨rfl, Fr.set hf1 fun h => by omega⟩
  · rw [if_pos he] at ho ⊢
    have hel := encV_len he
    have hpos : 0 < (encV l).length := by simp [encV, numF]
    refine stp ?_
    refine O.call' (Sum_okD ho.rd hpos (by omega)) (fun r h3 hr => ?_)
    obtain ⟨rfl, hf3⟩ := hr
    have hn3 := hf3.n
    have hsl := sumS_len (encV l)
    haveI : L32 (bcells (sumS (encV l))) := ⟨by rw [bcells_len, hsl]⟩
    haveI := hf3.keep gO (by omega) id
    haveI : BLt h.n h3 := ⟨by omega⟩
    rw [he]
    refine stp ?_
    exact ⟨rfl, Fr.set (Fr.trans (S := fun _ => False) hf1 hf3 fun _ _ h => h) fun h => by omega⟩
end Go.Proofs.Ytmfaepkmiceoeaa.A

namespace Go.Proofs.Ytmfaepkmiceoeaa.A
open Go Go.Vm
set_option maxRecDepth 10000
set_option linter.unusedVariables false
theorem appendLitV {P : Program} {T : Table} {ts : List Value} {ds : List Deferred} {h : Heap} {rd : Option Nat} {dst bytes el : Nat} {x y : Operand} {chk : List (Option Nat × AOp × Option (Nat × Bool))} {pan : Bool} {rest : List AOper} {Q : QP} {F : Value → List Value} {w : Value} {l : List Val}
    [e1 : Ev ts x (.slice (some ⟨h.n, 0, none⟩) 0 0)] [e2 : Ev ts y w] [s : LSetF ts dst F] (hv : Rd h 5 w (vcells l) l.length) (hs : l.length < 1048576) (hb : bytes < 1048576)
    (hk : ∀ v' h', Own h' 5 v' (vcells l) l.length → Fr (fun _ => False) h h' → (∀ i, ownedBy v' i → h.n ≤ i) → RunO P T rest ⟨F v', ds, h', rd⟩ Q) :
    RunO P T (⟨some dst, .append el 5 bytes [.int .u8 0, .int .u8 0, .int .u8 0, .int .u8 0, .int .i64 0] false x y, none, chk, pan⟩ :: rest) ⟨ts, ds, h.push (.cells [] 0), rd⟩ Q := by
  have f0 : Fr (fun _ => False) h (h.push (.cells [] 0)) := Fr.refl.push
  have hz : Own (h.push (.cells [] 0)) 5 (.slice (some ⟨h.n, 0, none⟩) 0 0) [] 0 := .lit (by simp) (by rw [Heap.get_push, if_pos rfl])
  refine O.append hz ((hv.keep f0 fun _ _ => id).new _) (vcells_len l) (vcells_one l) (by omega) (by omega) (by omega) (fun v' h' h1 h2 h3 => ?_)
  rw [Nat.zero_add, List.nil_append] at h1
  refine hk v' h' h1 (f0.trans (S := fun _ => False) h2 fun i hi ho => ?_) fun i hi => ?_
  · have : h.n = i := ho
    omega
  · rcases h3 i hi with h4 | h4
    · have : h.n = i := h4
      omega
    · simp at h4; omega
theorem CopyVals_ok {h : Heap} {v : Value} {l : List Val} (hr : Rd h 5 v (vcells l) l.length) (hs : l.length < 1048576) :
    Runs Try.prog T0 (.fn fn_zoQ) [v] h
      (fun r h' => Own h' 5 r (vcells l) l.length ∧ Fr (fun _ => False) h h' ∧ ∀ i, ownedBy r i → h.n ≤ i) (fun _ _ => False) := by
  have hr0 := hr
  obtain ⟨a, cap, rfl, hlen, hc⟩ := hr
  refine zoQ_runs ?_
  refine stp ?_
  refine appendLitV hr0 hs (by omega) (fun v' h' h1 h2 h3 => ?_)
  refine stp ?_
  exact ⟨h1, h2, h3⟩
end Go.Proofs.Ytmfaepkmiceoeaa.A

namespace Go.Proofs.Ytmfaepkmiceoeaa.A
open Go Go.Vm
set_option maxRecDepth 10000
set_option linter.unusedVariables false
abbrev u64 (n : Nat) : Value := .int .u64 (n : Nat)
abbrev tri (a b c : Nat) : List Value := [u64 a, u64 b, u64 c]
def bpw (k : Nat) : Nat := if k = 0 then 1 else if k = 1 then 18446744073709551616 else if k = 2 then 340282366920938463463374607431768211456 else 6277101735386680763835789423207666416102355444464034512896
def val3 (a b c : Nat) : Nat := a + b * 18446744073709551616 + c * 340282366920938463463374607431768211456
theorem wrap_add {a x : Nat} (ha : a < 18446744073709551616) (hx : x < 18446744073709551616) : IntKind.u64.wrap ((a : Int) + (x : Int)) = (((a + x) % 18446744073709551616 : Nat) : Int) := by
  rw [wrap_u64]; omega
theorem car1 {a y B : Nat} (ha : a < B) (hy : y < B) (h : (a + y) % B < y) : a + y = (a + y) % B + B := by
  rcases Nat.lt_or_ge (a + y) B with h1 | h1
  · rw [Nat.mod_eq_of_lt h1] at h; omega
  · have : (a + y) % B = a + y - B := by rw [Nat.mod_eq_sub_mod h1, Nat.mod_eq_of_lt (by omega)]
    omega
theorem car0 {a y B : Nat} (ha : a < B) (hy : y < B) (h : ¬ (a + y) % B < y) : a + y = (a + y) % B := by
  rcases Nat.lt_or_ge (a + y) B with h1 | h1
  · rw [Nat.mod_eq_of_lt h1]
  · exfalso
    have : (a + y) % B = a + y - B := by rw [Nat.mod_eq_sub_mod h1, Nat.mod_eq_of_lt (by omega)]
    omega
theorem bpw0 : bpw 0 = 1 := rfl
theorem bpw1 : bpw 1 = 18446744073709551616 := rfl
theorem bpw2 : bpw 2 = 340282366920938463463374607431768211456 := rfl
theorem bpw3 : bpw 3 = 6277101735386680763835789423207666416102355444464034512896 := rfl
theorem s01 {a y b c s : Nat} (h : a + y = s + 18446744073709551616) : val3 s b c + 1 * bpw 1 = val3 a b c + y * bpw 0 := by rw [bpw0, bpw1]; unfold val3; omega
theorem s00 {a y b c s : Nat} (h : a + y = s) : val3 s b c + 0 * bpw 1 = val3 a b c + y * bpw 0 := by rw [bpw0, bpw1]; unfold val3; omega
theorem s11 {a y b c s : Nat} (h : b + y = s + 18446744073709551616) : val3 a s c + 1 * bpw 2 = val3 a b c + y * bpw 1 := by rw [bpw1, bpw2]; unfold val3; omega
theorem s10 {a y b c s : Nat} (h : b + y = s) : val3 a s c + 0 * bpw 2 = val3 a b c + y * bpw 1 := by rw [bpw1, bpw2]; unfold val3; omega
theorem s21 {a y b c s : Nat} (h : c + y = s + 18446744073709551616) : val3 a b s + 1 * bpw 3 = val3 a b c + y * bpw 2 := by rw [bpw2, bpw3]; unfold val3; omega
theorem s20 {a y b c s : Nat} (h : c + y = s) : val3 a b s + 0 * bpw 3 = val3 a b c + y * bpw 2 := by rw [bpw2, bpw3]; unfold val3; omega
attribute [irreducible] bpw val3
theorem add_ok {h : Heap} {q a b c x k : Nat} (hg : h.get q = .cells (tri a b c) 0) (hq : q < h.n) (ha : a < 18446744073709551616) (hb : b < 18446744073709551616) (hc : c < 18446744073709551616) (hx : x < 18446744073709551616) (hk : k ≤ 3) :
    Runs Try.prog T0 (.fn fn_zmcQ) [.pointer (some ⟨q, 0, none⟩), .int .i64 k, u64 x] h
      (fun r h' => ∃ a' b' c' y, h'.get q = .cells (tri a' b' c') 0 ∧ a' < 18446744073709551616 ∧ b' < 18446744073709551616 ∧ c' < 18446744073709551616 ∧ Fr (fun i => i = q) h h' ∧ val3 a' b' c' + y * bpw 3 = val3 a b c + x * bpw k) (fun _ _ => False) := by
  refine zmcQ_runs ?_
  refine stpP ?_
  refine zmcQ_l0_rule (fun m v1 v2 h' => ∃ j y a' b' c' : Nat, j ≤ 3 ∧ m = 3 - j ∧ v1 = .int .i64 j ∧ v2 = u64 y ∧ y < 18446744073709551616 ∧ h'.get q = .cells (tri a' b' c') 0 ∧ q < h'.n ∧ a' < 18446744073709551616 ∧ b' < 18446744073709551616 ∧ c' < 18446744073709551616 ∧ Fr (fun i => i = q) h h' ∧ val3 a' b' c' + y * bpw j = val3 a b c + x * bpw k) ?_ (3 - k) ⟨k, x, a, b, c, hk, rfl, rfl, rfl, hx, hg, hq, ha, hb, hc, Fr.refl, rfl⟩
  rintro m v1 v2 h' x7 x8 x9 x10 x11 x12 x13 x14 x15 x16 x17 x18 x19 x20 x21 x22 x23 x24 x25 x26 x27 x28 x29 x30 ⟨j, y, a', b', c', hj, rfl, rfl, rfl, hy, hg', hq', ha', hb', hc', hf, he⟩
  haveI : HGet h' q _ := ⟨hg'⟩
  haveI : BLt q h' := ⟨hq'⟩
  rcases (show j = 0 ∨ j = 1 ∨ j = 2 ∨ j = 3 by omega) with rfl | rfl | rfl | rfl
  · refine stpP ?_
    refine C.if (fun hpos => ?_) (fun hz => ?_)
    · refine stpP ?_
      rw [wrap_add ha' hy]
      refine C.if (fun hlt => ?_) (fun hge => ?_)
      · refine stpP ?_
        refine zmcQ_l0_again (3 - 1) (by omega) ⟨0 + 1, 1, ((a' + y) % 18446744073709551616), b', c', by omega, rfl, rfl, rfl, by omega, by rw [Heap.get_set, if_pos rfl], by simpa using hq', Nat.mod_lt _ (by omega), hb', hc', hf.set fun _ => rfl, ?_⟩
        rw [← he]
        exact s01 (car1 ha' hy (by omega))
      · refine stpP ?_
        refine zmcQ_l0_again (3 - 1) (by omega) ⟨0 + 1, 0, ((a' + y) % 18446744073709551616), b', c', by omega, rfl, rfl, rfl, by omega, by rw [Heap.get_set, if_pos rfl], by simpa using hq', Nat.mod_lt _ (by omega), hb', hc', hf.set fun _ => rfl, ?_⟩
        rw [← he]
        exact s00 (car0 ha' hy (by omega))
    · have hy0 : y = 0 := by omega
      refine stpP ?_
      refine ⟨a', b', c', 0, hg', ha', hb', hc', hf, ?_⟩
      rw [← he, hy0, Nat.zero_mul, Nat.zero_mul]
  · refine stpP ?_
    refine C.if (fun hpos => ?_) (fun hz => ?_)
    · refine stpP ?_
      rw [wrap_add hb' hy]
      refine C.if (fun hlt => ?_) (fun hge => ?_)
      · refine stpP ?_
        refine zmcQ_l0_again (2 - 1) (by omega) ⟨1 + 1, 1, a', ((b' + y) % 18446744073709551616), c', by omega, rfl, rfl, rfl, by omega, by rw [Heap.get_set, if_pos rfl], by simpa using hq', ha', Nat.mod_lt _ (by omega), hc', hf.set fun _ => rfl, ?_⟩
        rw [← he]
        exact s11 (car1 hb' hy (by omega))
      · refine stpP ?_
        refine zmcQ_l0_again (2 - 1) (by omega) ⟨1 + 1, 0, a', ((b' + y) % 18446744073709551616), c', by omega, rfl, rfl, rfl, by omega, by rw [Heap.get_set, if_pos rfl], by simpa using hq', ha', Nat.mod_lt _ (by omega), hc', hf.set fun _ => rfl, ?_⟩
        rw [← he]
        exact s10 (car0 hb' hy (by omega))
    · have hy0 : y = 0 := by omega
      refine stpP ?_
      refine ⟨a', b', c', 0, hg', ha', hb', hc', hf, ?_⟩
      rw [← he, hy0, Nat.zero_mul, Nat.zero_mul]
  · refine stpP ?_
    refine C.if (fun hpos => ?_) (fun hz => ?_)
    · refine stpP ?_
      rw [wrap_add hc' hy]
      refine C.if (fun hlt => ?_) (fun hge => ?_)
      · refine stpP ?_
        refine zmcQ_l0_again (1 - 1) (by omega) ⟨2 + 1, 1, a', b', ((c' + y) % 18446744073709551616), by omega, rfl, rfl, rfl, by omega, by rw [Heap.get_set, if_pos rfl], by simpa using hq', ha', hb', Nat.mod_lt _ (by omega), hf.set fun _ => rfl, ?_⟩
        rw [← he]
        exact s21 (car1 hc' hy (by omega))
      · refine stpP ?_
        refine zmcQ_l0_again (1 - 1) (by omega) ⟨2 + 1, 0, a', b', ((c' + y) % 18446744073709551616), by omega, rfl, rfl, rfl, by omega, by rw [Heap.get_set, if_pos rfl], by simpa using hq', ha', hb', Nat.mod_lt _ (by omega), hf.set fun _ => rfl, ?_⟩
        rw [← he]
        exact s20 (car0 hc' hy (by omega))
    · have hy0 : y = 0 := by omega
      refine stpP ?_
      refine ⟨a', b', c', 0, hg', ha', hb', hc', hf, ?_⟩
      rw [← he, hy0, Nat.zero_mul, Nat.zero_mul]
  · refine stpP ?_
    exact ⟨a', b', c', y, hg', ha', hb', hc', hf, he⟩
end Go.Proofs.Ytmfaepkmiceoeaa.A

namespace Go.Proofs.Ytmfaepkmiceoeaa.A
open Go Go.Vm
set_option maxRecDepth 10000
set_option linter.unusedVariables false
abbrev wide (n : Nat) : List Value := [u64 (n / 18446744073709551616), u64 (n % 18446744073709551616)]
theorem val3_eq (a b c : Nat) : val3 a b c = a + b * 18446744073709551616 + c * 340282366920938463463374607431768211456 := by unfold val3; rfl
theorem told_ok {h : Heap} {a b : Nat} (ha : a < 18446744073709551616) (hb : b < 18446744073709551616) :
    Runs Try.prog T0 (.fn fn_zncQ) [.agg ⟨tri a b 0⟩] h (fun r h' => r = .tuple ⟨[.agg ⟨[u64 b, u64 a]⟩, .int .i64 0]⟩ ∧ Fr (fun _ => False) h h') (fun _ _ => False) := by
  refine zncQ_runs ?_
  refine stpP ?_
  exact ⟨rfl, Fr.refl.push.push⟩
theorem plus_arith {A B a b c y a2 b2 c2 y2 : Nat} (h : A + B < 340282366920938463463374607431768211456)
  (he1 : a + b * 18446744073709551616 + c * 340282366920938463463374607431768211456 + y * 6277101735386680763835789423207666416102355444464034512896 = A % 18446744073709551616 + A / 18446744073709551616 * 18446744073709551616 + 0 * 340282366920938463463374607431768211456 + B % 18446744073709551616 * 1)
  (he2 : a2 + b2 * 18446744073709551616 + c2 * 340282366920938463463374607431768211456 + y2 * 6277101735386680763835789423207666416102355444464034512896 = a + b * 18446744073709551616 + c * 340282366920938463463374607431768211456 + B / 18446744073709551616 * 18446744073709551616)
  (ha : a2 < 18446744073709551616) (hb : b2 < 18446744073709551616) : c2 = 0 ∧ a2 = (A + B) % 18446744073709551616 ∧ b2 = (A + B) / 18446744073709551616 := by
  have e1 : A % 18446744073709551616 + A / 18446744073709551616 * 18446744073709551616 = A := by omega
  have e2 : B % 18446744073709551616 + B / 18446744073709551616 * 18446744073709551616 = B := by omega
  have e3 : a2 + b2 * 18446744073709551616 + c2 * 340282366920938463463374607431768211456 + y2 * 6277101735386680763835789423207666416102355444464034512896 + y * 6277101735386680763835789423207666416102355444464034512896 = A + B := by omega
  have e4 : c2 = 0 := by omega
  have e5 : a2 + b2 * 18446744073709551616 = A + B := by omega
  clear he1 he2 e1 e2 e3
  exact ⟨e4, by omega, by omega⟩
theorem Plus_ok {h : Heap} {N1 N2 : Nat} (hAB : N1 + N2 < 340282366920938463463374607431768211456) :
    Runs Try.prog T0 (.fn fn_zicQ) [.agg ⟨wide N1⟩, .agg ⟨wide N2⟩] h (fun r h' => r = .tuple ⟨[.agg ⟨wide (N1 + N2)⟩, .int .i64 0]⟩ ∧ Fr (fun _ => False) h h') (fun _ _ => False) := by
  have hA0 : N1 % 18446744073709551616 < 18446744073709551616 := by omega
  have hA1 : N1 / 18446744073709551616 < 18446744073709551616 := by omega
  have hB0 : N2 % 18446744073709551616 < 18446744073709551616 := by omega
  have hB1 : N2 / 18446744073709551616 < 18446744073709551616 := by omega
  refine zicQ_runs ?_
  refine stpP ?_
  simp only [Heap.n_push]
  generalize hh : (((h.push (.cells (wide N1) 0)).push (.cells (wide N2) 0)).push (.cells [.int .u64 0, .int .u64 0] 0)).push (.cells (tri (N1 % 18446744073709551616) (N1 / 18446744073709551616) 0) 0) = h0
  have f0 : Fr (fun _ => False) h h0 := by rw [← hh]; exact Fr.refl.push.push.push.push
  have n0 : h0.n = h.n + 4 := by rw [← hh]; rfl
  have gB : HGet h0 (h.n + 1) (.cells (wide N2) 0) := ⟨by rw [← hh, Heap.get_push, if_neg (by simp), Heap.get_push, if_neg (by simp), Heap.get_push, if_pos (by simp)]⟩
  have gR : HGet h0 (h.n + 1 + 1) (.cells [.int .u64 0, .int .u64 0] 0) := ⟨by rw [← hh, Heap.get_push, if_neg (by simp), Heap.get_push, if_pos (by simp)]⟩
  have gQ : HGet h0 (h.n + 1 + 1 + 1) (.cells (tri (N1 % 18446744073709551616) (N1 / 18446744073709551616) 0) 0) := ⟨by rw [← hh, Heap.get_push, if_pos (by simp)]⟩
  clear hh
  refine O.call' (add_ok (k := 0) gQ.eq (by omega) hA0 hA1 (by omega) hB0 (by omega)) (fun r h1 hr => ?_)
  obtain ⟨a', b', c', y, hg1, ha', hb', hc', hf1, he1⟩ := hr
  have n1 := hf1.n
  haveI := hf1.keep gB (by omega) (by omega)
  refine stpP ?_
  refine O.call' (add_ok (k := 1) hg1 (by omega) ha' hb' hc' hB1 (by omega)) (fun r h2 hr => ?_)
  obtain ⟨a2, b2, c2, y2, hg2, ha2, hb2, hc2, hf2, he2⟩ := hr
  have n2 := hf2.n
  rw [val3_eq, val3_eq, bpw0, bpw3] at he1
  rw [val3_eq, val3_eq, bpw1, bpw3] at he2
  obtain ⟨e2, e3, e4⟩ := plus_arith hAB he1 he2 ha2 hb2
  subst e2 e3 e4
  haveI : HGet h2 _ _ := ⟨hg2⟩
  haveI := hf2.keep (hf1.keep gR (by omega) (by omega)) (by omega) (by omega)
  refine stpP ?_
  refine O.call' (told_ok ha2 hb2) (fun r h3 hr => ?_)
  obtain ⟨rfl, hf3⟩ := hr
  have n3 := hf3.n
  haveI := hf3.keep (hf2.keep (hf1.keep gR (by omega) (by omega)) (by omega) (by omega)) (by omega) id
  haveI : BLt (h.n + 1 + 1) h3 := ⟨by omega⟩
  refine stpP ?_
  refine ⟨rfl, Fr.set (Fr.trans (S := fun _ => False) f0 (Fr.trans (S := fun i => i = h.n + 1 + 1 + 1) (hf1.trans' hf2) hf3 fun _ _ h => h.elim) fun i hi e => by omega) fun hlt => by omega⟩
theorem Of_ok {h : Heap} {n : Nat} (hn : n < 9223372036854775808) :
    Runs Try.prog T0 (.fn fn_zhcQ) [.int .i64 n] h (fun r h' => r = .tuple ⟨[.agg ⟨wide n⟩, .int .i64 0]⟩ ∧ Fr (fun _ => False) h h') (fun _ _ => False) := by
  refine zhcQ_runs ?_
  refine stpP ?_
  have h1 : n / 18446744073709551616 = 0 := by omega
  have h2 : n % 18446744073709551616 = n := by omega
  exact ⟨by simp only [wide, h1, h2]; rfl, Fr.refl.push⟩
end Go.Proofs.Ytmfaepkmiceoeaa.A

namespace Go.Proofs.Ytmfaepkmiceoeaa.A
open Go Go.Vm
set_option maxRecDepth 10000
set_option linter.unusedVariables false
def ncells (l : List Nat) : List Value := l.map fun n => .int .i64 (n : Nat)
theorem ncells_len (l : List Nat) : (ncells l).length = l.length := by simp [ncells]
theorem ncells_one : ∀ l : List Nat, (ncells l).all Value.oneCell' = true
  | [] => rfl
  | n :: l => by simp only [ncells, List.map_cons, List.all_cons]; rw [show (l.map fun n : Nat => Value.int .i64 (n : Nat)) = ncells l from rfl, ncells_one l]; rfl
theorem ncells_append (l m : List Nat) : ncells (l ++ m) = ncells l ++ ncells m := by simp [ncells]
theorem int_cell {h : Heap} {b o n k : Nat} {l : List Nat} (hc : cellsAt h b o n = some (ncells l)) (hn : l.length = n) (hk : k < n) : Cell h b (o + k) (.int .i64 (l.getD k 0 : Nat)) := ⟨by
  have := cellsAt_sub (k := k) (m := 1) hc (by omega)
  rw [this]
  have hk' : k < (ncells l).length := by rw [ncells_len]; omega
  rw [List.drop_eq_getElem_cons hk']
  simp [ncells, List.getD, List.getElem?_eq_getElem (show k < l.length by omega)]⟩
def sumN (l : List Nat) : Nat := l.foldl (· + ·) 0
theorem sumN_snoc (l : List Nat) (n : Nat) : sumN (l ++ [n]) = sumN l + n := by simp [sumN]
theorem sumN_append_le (l m : List Nat) : sumN l ≤ sumN (l ++ m) := by
  induction m generalizing l with
  | nil => simp
  | cons n m ih =>
    have := ih (l ++ [n])
    rw [sumN_snoc] at this
    simp only [List.append_assoc, List.cons_append, List.nil_append] at this
    omega
theorem sumN_take (l : List Nat) {k : Nat} (hk : k < l.length) : sumN (l.take (k + 1)) = sumN (l.take k) + l.getD k 0 := by
  have : l.take (k + 1) = l.take k ++ [l.getD k 0] := by
    rw [List.take_succ_eq_append_getElem hk]
    simp [List.getD, hk]
  rw [this, sumN_snoc]
theorem sumN_take_le (l : List Nat) (k : Nat) : sumN (l.take k) ≤ sumN l := by
  have := sumN_append_le (l.take k) (l.drop k)
  rwa [List.take_append_drop] at this
theorem Sum1_ok {h : Heap} {N n : Nat} (hn : n < 9223372036854775808) (hs : N + n < 340282366920938463463374607431768211456) :
    Runs Try.prog T0 (.fn fn_zkcQ) [.agg ⟨wide N⟩, .int .i64 n] h (fun r h' => r = .tuple ⟨[.agg ⟨wide (N + n)⟩, .int .i64 0]⟩ ∧ Fr (fun _ => False) h h') (fun _ _ => False) := by
  refine zkcQ_runs ?_
  refine stpP ?_
  refine O.call' (Of_ok hn) (fun r h1 hr => ?_)
  obtain ⟨rfl, hf1⟩ := hr
  have n1 := hf1.n
  simp only [Heap.n_push] at n1
  have gA : HGet h1 h.n (.cells (wide N) 0) := hf1.keep (b := h.n) inferInstance (by simp; omega) id
  have gB : HGet h1 (h.push (.cells (wide N) 0)).n (.cells [.int .u64 0, .int .u64 0] 0) := hf1.keep inferInstance (by simp) id
  haveI := gA
  haveI := gB
  haveI : BLt h.n h1 := ⟨by omega⟩
  haveI : BLt (h.push (.cells (wide N) 0)).n h1 := ⟨by simp; omega⟩
  refine stpP ?_
  refine O.call' (Plus_ok hs) (fun r h2 hr => ?_)
  obtain ⟨rfl, hf2⟩ := hr
  have n2 := hf2.n
  simp only [Heap.n_push] at n2
  haveI := hf2.keep (b := (h.push (.cells (wide N) 0)).n) inferInstance (by simp; omega) id
  haveI : BLt (h.push (.cells (wide N) 0)).n h2 := ⟨by simp; omega⟩
  refine stpP ?_
  exact ⟨rfl, Fr.set (Fr.trans (S := fun _ => False) (Fr.trans (S := fun _ => False) Fr.refl.push.push hf1 fun _ _ h => h) (Fr.trans (S := fun _ => False) Fr.refl.push hf2 fun _ _ h => h) fun _ _ h => h) fun h => by simp at h; omega⟩
theorem fold_ok {h : Heap} {v : Value} {l : List Nat} (hv : Rd h 1 v (ncells l) l.length) (hr : ∀ n ∈ l, n < 9223372036854775808) (hs : sumN l < 340282366920938463463374607431768211456) (hsm : l.length < 1048576) :
    Runs Try.prog T0 (.fn fn_zlcQ) [.agg ⟨[.int .u64 0, .int .u64 0]⟩, v, .func (.func fn_zkcQ) ⟨[]⟩ ⟨[]⟩] h (fun r h' => r = .tuple ⟨[.agg ⟨wide (sumN l)⟩, .int .i64 0]⟩ ∧ Fr (fun _ => False) h h') (fun _ _ => False) := by
  obtain ⟨a, cap, rfl, hlen, hc⟩ := hv
  refine zlcQ_runs ?_
  refine stpP ?_
  simp only [Heap.n_push]
  refine zlcQ_l0_rule (fun m v15 h' => ∃ k : Nat, k ≤ l.length ∧ m = l.length - k ∧ v15 = .int .i64 k ∧ h'.get h.n = .cells (wide (sumN (l.take k))) 0 ∧ h'.get (h.n + 1) = .cells [.int .u64 0, .int .u64 0] 0 ∧ h.n + 1 < h'.n ∧ Fr (fun _ => False) h h') ?_ l.length ⟨0, by omega, rfl, rfl, ?_, ?_, by simp, Fr.refl.push.push⟩
  · rintro m v15 h' x7 x9 x10 x11 x12 x16 x17 x18 x19 x20 x21 x22 x23 x24 x25 x26 x27 x28 x29 x30 x31 ⟨k, hk, rfl, rfl, hgA, hgB, hlt', hf⟩
    haveI : HGet h' h.n _ := ⟨hgA⟩
    haveI : HGet h' (h.n + 1) _ := ⟨hgB⟩
    haveI : BLt h.n h' := ⟨by omega⟩
    haveI : BLt (h.n + 1) h' := ⟨by omega⟩
    refine stpP ?_
    refine C.if (fun hlt => ?_) (fun hge => ?_)
    · have hlt : k < l.length := by omega
      obtain ⟨b, o, sp, rfl, hb, hcc⟩ := hc (by omega)
      have hcc' : cellsAt h' b o l.length = some (ncells l) := by rw [cellsAt_keep hf hb id]; simpa using hcc
      haveI := int_cell hcc' rfl hlt
      have hn := hr _ (show l.getD k 0 ∈ l by simp [List.getD, hlt])
      have hst := sumN_take l hlt
      have hsl := sumN_take_le l (k + 1)
      refine stpP ?_
      refine O.call' (Sum1_ok (N := sumN (l.take k)) (n := l.getD k 0) hn (by omega)) (fun r h1 hr1 => ?_)
      obtain ⟨rfl, hf1⟩ := hr1
      rw [← hst]
      have n1 := hf1.n
      have gA1 := hf1.keep (b := h.n) ⟨hgA⟩ (by omega) id
      have gB1 := hf1.keep (b := h.n + 1) ⟨hgB⟩ (by omega) id
      haveI := gA1
      haveI := gB1
      haveI : BLt h.n h1 := ⟨by omega⟩
      haveI : BLt (h.n + 1) h1 := ⟨by omega⟩
      refine stpP ?_
      refine zlcQ_l0_again (l.length - (k + 1)) (by omega) ⟨k + 1, by omega, rfl, rfl, by rw [Heap.get_set, if_pos rfl], ?_, by simp; omega, ?_⟩
      · rw [Heap.get_set, if_neg (by omega), Heap.get_push, if_neg (by omega), gB1.eq]
      · exact Fr.set (Fr.push (hf.trans' hf1)) fun h => by omega
    · obtain rfl : k = l.length := by omega
      rw [List.take_length] at *
      refine stpP ?_
      exact ⟨rfl, Fr.set hf fun h => by omega⟩
  · rw [Heap.get_push, if_neg (by simp), Heap.get_push, if_pos rfl]
    simp [sumN]
  · rw [Heap.get_push, if_pos (by simp)]
theorem WSum_ok {h : Heap} {v : Value} {l : List Nat} (hv : Rd h 1 v (ncells l) l.length) (hr : ∀ n ∈ l, n < 9223372036854775808) (hs : sumN l < 340282366920938463463374607431768211456) (hsm : l.length < 1048576) :
    Runs Try.prog T0 (.fn fn_zjcQ) [v] h (fun r h' => r = .tuple ⟨[.agg ⟨wide (sumN l)⟩, .int .i64 0]⟩ ∧ Fr (fun _ => False) h h') (fun _ _ => False) := by
  have hv0 := hv
  obtain ⟨a, cap, rfl, hlen, hc⟩ := hv
  refine zjcQ_runs ?_
  refine stpP ?_
  refine O.call' (fold_ok (hv0.keep (S := fun _ => False) Fr.refl.push fun _ _ => id) hr hs hsm) (fun r h1 hr1 => ?_)
  obtain ⟨rfl, hf1⟩ := hr1
  have n1 := hf1.n
  simp only [Heap.n_push] at n1
  haveI := hf1.keep (b := h.n) inferInstance (by simp) id
  haveI : BLt h.n h1 := ⟨by omega⟩
  refine stpP ?_
  exact ⟨rfl, Fr.set (Fr.trans (S := fun _ => False) Fr.refl.push hf1 fun _ _ h => h) fun h => by omega⟩
end Go.Proofs.Ytmfaepkmiceoeaa.A

namespace Go.Proofs.Ytmfaepkmiceoeaa.A
open Go Go.Vm
set_option maxRecDepth 10000
set_option linter.unusedVariables false
def powersV (l : List Val) : List Nat := l.map fun v => v.p.toNat
theorem powersV_len (l : List Val) : (powersV l).length = l.length := by simp [powersV]
theorem powersV_take {l : List Val} {k : Nat} (hk : k < l.length) : powersV (l.take (k + 1)) = powersV (l.take k) ++ [(l.getD k zVal).p.toNat] := by
  have : l.take (k + 1) = l.take k ++ [l.getD k zVal] := by
    rw [List.take_succ_eq_append_getElem hk]
    simp [List.getD, hk]
  rw [this]
  simp [powersV]
theorem sumN_le {l : List Nat} {b : Nat} (h : ∀ n ∈ l, n ≤ b) : sumN l ≤ l.length * b := by
  have key : ∀ (l : List Nat) (a : Nat), (∀ n ∈ l, n ≤ b) → l.foldl (· + ·) a ≤ a + l.length * b := by
    intro l
    induction l with
    | nil => intro a _; simp
    | cons n l ih =>
      intro a h
      have h1 := ih (a + n) fun m hm => h m (by simp [hm])
      have h2 := h n (by simp)
      rw [List.foldl_cons, List.length_cons, Nat.succ_mul]
      omega
  have := key l 0 h
  unfold sumN
  omega
theorem powersV_mem {l : List Val} (h : ∀ v ∈ l, 1 ≤ v.p ∧ v.p ≤ 4611686018427387904) : ∀ n ∈ powersV l, n ≤ 4611686018427387904 := by
  intro n hn
  obtain ⟨v, hv, rfl⟩ := List.mem_map.1 hn
  have := h v hv
  omega
theorem one_int {h : Heap} {n : Nat} {es : Nat} : newCells (h.push (.cells [.int .i64 (n : Nat)] es)) 1 [.int .i64 0] false (.slice (some ⟨h.n, 0, none⟩) 1 1) = some (1, ncells [n]) :=
  (Rd.mk (size := 1) (n := 1) (cap := 1) (sp := none) (o := 0) (b := h.n) (c := ncells [n]) (by simp) (by rw [cellsAt_of (c := [.int .i64 (n : Nat)]) (by rw [Heap.get_push, if_pos rfl]; rfl) (by simp)]; rfl)).new _
def totalS (l : List Val) : Nat := if checkV l = 0 then sumN (powersV l) else 0
theorem VTotal_ok {h : Heap} {v : Value} {l : List Val} (hv : Rd h 5 v (vcells l) l.length) : Runs Try.prog T0 (.fn fn_zecQ) [v] h
    (fun r h' => r = .tuple ⟨[.agg ⟨wide (totalS l)⟩, .int .i64 (checkV l)]⟩ ∧ Fr (fun _ => False) h h') (fun _ _ => False) := by
  have k1 := VCheck_ok (hv.keep (S := fun _ => False) (Fr.refl.push (o := .cells [.int .u64 0, .int .u64 0] 0)) fun _ _ => id)
  obtain ⟨a, cap, rfl, hlen, hc⟩ := hv
  refine zecQ_runs ?_
  refine stpP ?_
  refine O.call' k1 (fun r h1 hr => ?_)
  obtain ⟨rfl, hf1⟩ := hr
  have n1 := hf1.n
  simp only [Heap.n_push] at n1
  have gA1 : HGet h1 h.n (.cells [.int .u64 0, .int .u64 0] 0) := hf1.keep (b := h.n) HGet.new (by simp) id
  have f1 : Fr (fun _ => False) h h1 := Fr.trans (S := fun _ => False) Fr.refl.push hf1 fun _ _ h => h
  haveI := gA1
  haveI : BLt h.n h1 := ⟨by omega⟩
  refine stpP ?_
  unfold totalS
  refine C.ifN (fun hz => ?_) (fun hz => ?_)
  · refine stpP ?_
    rw [if_neg hz]
    exact ⟨rfl, Fr.set f1 fun h => by omega⟩
  · refine stpP ?_
    obtain ⟨c1, c2, c3, c4⟩ := checkV_ok hz
    obtain ⟨b, o, sp, rfl, hb, hcc⟩ := hc (by omega)
    refine zecQ_l0_rule (fun m v5 v16 h' => ∃ k : Nat, k ≤ l.length ∧ m = l.length - k ∧ v16 = .int .i64 k ∧ Own h' 1 v5 (ncells (powersV (l.take k))) k ∧ (∀ i, ownedBy v5 i → h1.n ≤ i) ∧ Fr (fun _ => False) h1 h') ?_ l.length ⟨0, by omega, rfl, rfl, .none, fun i hi => hi.elim, Fr.refl⟩
    rintro m v5 v16 h' x7 x17 x18 x19 x20 x21 x22 x23 x24 x25 ⟨k, hk, rfl, rfl, ho, hnew, hf⟩
    refine stpP ?_
    refine C.if (fun hlt => ?_) (fun hge => ?_)
    · have hlt : k < l.length := by omega
      have hcc' : cellsAt h' b o (l.length * 5) = some (vcells l) := by rw [cellsAt_keep (f1.trans' hf) hb id]; exact hcc
      haveI := val_cells hcc' rfl hlt
      have hr := c4 _ (getD_mem hlt)
      refine stpP ?_
      have e1 : (l.getD k zVal).p = (((l.getD k zVal).p.toNat : Nat) : Int) := by omega
      have hn' := hf.n
      have f2 : ∀ {o1 o2 : AObj}, Fr (fun _ => False) h' ((h'.push o1).push o2) := Fr.refl.push.push
      rw [e1]
      refine O.append (size := 1) (bytes := 8) (n := k) (m := 1) (d := ncells [(l.getD k zVal).p.toNat]) (ho.keep f2 fun _ _ => id) one_int (by simp [ncells]) (ncells_one _) (by omega) (by omega) (by omega) (fun v2 h2 ho2 hf2 hn2 => ?_)
      refine stpP ?_
      refine zecQ_l0_again (l.length - (k + 1)) (by omega) ⟨k + 1, by omega, rfl, rfl, ?_, fun i hi => ?_, ?_⟩
      · rw [powersV_take hlt, ncells_append]
        exact ho2
      · rcases hn2 i hi with e | e
        · exact hnew i e
        · simp at e; omega
      · exact Fr.trans (S := fun _ => False) (hf.trans' f2) hf2 fun i hi e => by have := hnew i e; omega
    · obtain rfl : k = l.length := by omega
      rw [List.take_length] at *
      refine stpP ?_
      have hm := powersV_mem c4
      have hsl := sumN_le hm
      rw [powersV_len] at hsl
      have hrd := ho.rd
      rw [← powersV_len l] at hrd
      have hn' := hf.n
      refine O.call' (WSum_ok (l := powersV l) hrd (fun n hn => by have := hm n hn; omega) (by omega) (by rw [powersV_len]; omega)) (fun r h2 hr => ?_)
      obtain ⟨rfl, hf2⟩ := hr
      have n2 := hf2.n
      haveI := (hf.trans' hf2).keep gA1 (by omega) id
      haveI : BLt h.n h2 := ⟨by omega⟩
      refine stpP ?_
      rw [hz] at *
      rw [if_pos rfl]
      exact ⟨rfl, Fr.set (f1.trans' (hf.trans' hf2)) fun h => by omega⟩
end Go.Proofs.Ytmfaepkmiceoeaa.A

namespace Go.Proofs.Ytmfaepkmiceoeaa.A
open Go Go.Vm
set_option maxRecDepth 10000
set_option linter.unusedVariables false
theorem Rplus_ok {h : Heap} {a b c : Nat} (ha : a < 18446744073709551616) (hb : b < 18446744073709551616) (hc : c ≤ 1) :
    Runs Try.prog T0 (.fn fn_zxQ) [u64 a, u64 b, u64 c] h (fun r h' => r = .tuple ⟨[u64 ((a + b + c) % 18446744073709551616), u64 ((a + b + c) / 18446744073709551616)]⟩ ∧ h' = h) (fun _ _ => False) := by
  refine zxQ_runs ?_
  refine stpP ?_
  rw [wrap_add ha hb]
  refine C.if (fun h1 => ?_) (fun h1 => ?_)
  · have e1 := car1 (a := b) (y := a) (B := 18446744073709551616) hb ha (by rw [Nat.add_comm b a]; omega)
    rw [Nat.add_comm b a] at e1
    refine stpP ?_
    rw [wrap_add (by omega) (by omega)]
    refine C.if (fun h2 => ?_) (fun h2 => ?_)
    · exfalso
      omega
    · refine stpP ?_
      refine ⟨?_, rfl⟩
      have e2 : ((a + b) % 18446744073709551616 + c) % 18446744073709551616 = (a + b + c) % 18446744073709551616 := by omega
      have e3 : (a + b + c) / 18446744073709551616 = 1 := by omega
      rw [e2, e3]
      rfl
  · have e1 := car0 (a := b) (y := a) (B := 18446744073709551616) hb ha (by rw [Nat.add_comm b a]; omega)
    rw [Nat.add_comm b a] at e1
    refine stpP ?_
    rw [wrap_add (by omega) (by omega)]
    refine C.if (fun h2 => ?_) (fun h2 => ?_)
    · refine stpP ?_
      refine ⟨?_, rfl⟩
      have e2 : ((a + b) % 18446744073709551616 + c) % 18446744073709551616 = (a + b + c) % 18446744073709551616 := by omega
      have e3 : (a + b + c) / 18446744073709551616 = 1 := by omega
      rw [e2, e3]
      rfl
    · refine stpP ?_
      refine ⟨?_, rfl⟩
      have e2 : ((a + b) % 18446744073709551616 + c) % 18446744073709551616 = (a + b + c) % 18446744073709551616 := by omega
      have e3 : (a + b + c) / 18446744073709551616 = 0 := by omega
      rw [e2, e3]
      rfl
end Go.Proofs.Ytmfaepkmiceoeaa.A

namespace Go.Proofs.Ytmfaepkmiceoeaa.A
open Go Go.Vm
set_option maxRecDepth 10000
set_option linter.unusedVariables false
theorem rplus_arith {N M : Nat} (h : N + M < 340282366920938463463374607431768211456) :
    (N / 18446744073709551616 + M / 18446744073709551616 + (N % 18446744073709551616 + M % 18446744073709551616 + 0) / 18446744073709551616) / 18446744073709551616 = 0 ∧
    (N / 18446744073709551616 + M / 18446744073709551616 + (N % 18446744073709551616 + M % 18446744073709551616 + 0) / 18446744073709551616) % 18446744073709551616 = (N + M) / 18446744073709551616 ∧
    (N % 18446744073709551616 + M % 18446744073709551616 + 0) % 18446744073709551616 = (N + M) % 18446744073709551616 ∧ (N % 18446744073709551616 + M % 18446744073709551616 + 0) / 18446744073709551616 ≤ 1 ∧ N / 18446744073709551616 < 18446744073709551616 ∧ M / 18446744073709551616 < 18446744073709551616 := by
  omega
theorem RPlus_ok {h : Heap} {N M : Nat} (hs : N + M < 340282366920938463463374607431768211456) :
    Runs Try.prog T0 (.fn fn_zvQ) [.agg ⟨wide N⟩, .agg ⟨wide M⟩] h (fun r h' => r = .tuple ⟨[.agg ⟨wide (N + M)⟩, .int .i64 0]⟩ ∧ Fr (fun _ => False) h h') (fun _ _ => False) := by
  obtain ⟨e1, e2, e3, e4, e5, e6⟩ := rplus_arith hs
  refine zvQ_runs ?_
  refine stpP ?_
  refine O.call' (Rplus_ok (c := 0) (Nat.mod_lt _ (by omega)) (Nat.mod_lt _ (by omega)) (by omega)) (fun r h1 hr => ?_)
  obtain ⟨rfl, rfl⟩ := hr
  refine stpP ?_
  refine O.call' (Rplus_ok e5 e6 e4) (fun r h1 hr => ?_)
  obtain ⟨rfl, rfl⟩ := hr
  rw [e1, e2, e3]
  refine stpP ?_
  exact ⟨rfl, Fr.refl.push.push.push⟩
theorem ROf_ok {h : Heap} {n : Nat} (hn : n < 9223372036854775808) :
    Runs Try.prog T0 (.fn fn_zuQ) [.int .i64 n] h (fun r h' => r = .tuple ⟨[.agg ⟨wide n⟩, .int .i64 0]⟩ ∧ Fr (fun _ => False) h h') (fun _ _ => False) := by
  refine zuQ_runs ?_
  refine stpP ?_
  have h1 : n / 18446744073709551616 = 0 := by omega
  have h2 : n % 18446744073709551616 = n := by omega
  exact ⟨by simp only [wide, h1, h2]; rfl, Fr.refl.push⟩
theorem RSum_ok {h : Heap} {v : Value} {l : List Nat} (hv : Rd h 1 v (ncells l) l.length) (hr : ∀ n ∈ l, n < 9223372036854775808) (hs : sumN l < 340282366920938463463374607431768211456) (hsm : l.length < 1048576) :
    Runs Try.prog T0 (.fn fn_zwQ) [v] h (fun r h' => r = .tuple ⟨[.agg ⟨wide (sumN l)⟩, .int .i64 0]⟩ ∧ Fr (fun _ => False) h h') (fun _ _ => False) := by
  obtain ⟨a, cap, rfl, hlen, hc⟩ := hv
  refine zwQ_runs ?_
  refine stpP ?_
  simp only [Heap.n_push]
  refine zwQ_l0_rule (fun m v5 h' => ∃ k : Nat, k ≤ l.length ∧ m = l.length - k ∧ v5 = .int .i64 k ∧ h'.get (h.n + 1) = .cells (wide (sumN (l.take k))) 0 ∧ h'.get h.n = .cells [.int .u64 0, .int .u64 0] 0 ∧ h.n + 1 < h'.n ∧ Fr (fun _ => False) h h') ?_ l.length ⟨0, by omega, rfl, rfl, ?_, ?_, by simp, Fr.refl.push.push⟩
  · rintro m v5 h' x3 x6 x7 x8 x9 x10 x11 x12 x13 x14 x15 x16 x17 x18 x19 x20 x21 x22 x23 x24 x25 x26 x27 x28 x29 x30 x31 ⟨k, hk, rfl, rfl, hgA, hgB, hlt', hf⟩
    haveI : HGet h' h.n _ := ⟨hgB⟩
    haveI : HGet h' (h.n + 1) _ := ⟨hgA⟩
    haveI : BLt h.n h' := ⟨by omega⟩
    haveI : BLt (h.n + 1) h' := ⟨by omega⟩
    refine stpP ?_
    refine C.if (fun hlt => ?_) (fun hge => ?_)
    · have hlt : k < l.length := by omega
      obtain ⟨b, o, sp, rfl, hb, hcc⟩ := hc (by omega)
      have hcc' : cellsAt h' b o l.length = some (ncells l) := by rw [cellsAt_keep hf hb id]; simpa using hcc
      haveI := int_cell hcc' rfl hlt
      have hn := hr _ (show l.getD k 0 ∈ l by simp [List.getD, hlt])
      have hst := sumN_take l hlt
      have hsl := sumN_take_le l (k + 1)
      refine stpP ?_
      refine O.call' (ROf_ok (n := l.getD k 0) hn) (fun r h1 hr1 => ?_)
      obtain ⟨rfl, hf1⟩ := hr1
      have n1 := hf1.n
      have gA1 := hf1.keep (b := h.n + 1) ⟨hgA⟩ (by omega) id
      have gB1 := hf1.keep (b := h.n) ⟨hgB⟩ (by omega) id
      haveI := gA1
      haveI := gB1
      haveI : BLt h.n h1 := ⟨by omega⟩
      haveI : BLt (h.n + 1) h1 := ⟨by omega⟩
      refine stpP ?_
      refine O.call' (RPlus_ok (N := sumN (l.take k)) (M := l.getD k 0) (by omega)) (fun r h2 hr1 => ?_)
      obtain ⟨rfl, hf2⟩ := hr1
      rw [← hst]
      have n2 := hf2.n
      simp only [Heap.n_push] at n2
      have f12 : Fr (fun _ => False) h1 h2 := Fr.trans (S := fun _ => False) Fr.refl.push hf2 fun _ _ h => h
      have gB2 := f12.keep gB1 (by omega) id
      have gA2 := f12.keep gA1 (by omega) id
      haveI := gA2
      haveI : BLt (h.n + 1) h2 := ⟨by omega⟩
      refine stpP ?_
      refine zwQ_l0_again (l.length - (k + 1)) (by omega) ⟨k + 1, by omega, rfl, rfl, by rw [Heap.get_set, if_pos rfl], ?_, by simp; omega, ?_⟩
      · rw [Heap.get_set, if_neg (by omega), gB2.eq]
      · exact Fr.set ((hf.trans' hf1).trans' f12) fun h => by omega
    · obtain rfl : k = l.length := by omega
      rw [List.take_length] at *
      refine stpP ?_
      exact ⟨rfl, Fr.set hf fun h => by omega⟩
  · rw [Heap.get_push, if_pos (by simp)]
    simp [sumN]
  · rw [Heap.get_push, if_neg (by simp), Heap.get_push, if_pos rfl]
theorem RVTotal_ok {h : Heap} {v : Value} {l : List Val} (hv : Rd h 5 v (vcells l) l.length) : Runs Try.prog T0 (.fn fn_zpbQ) [v] h
    (fun r h' => r = .tuple ⟨[.agg ⟨wide (totalS l)⟩, .int .i64 (checkV l)]⟩ ∧ Fr (fun _ => False) h h') (fun _ _ => False) := by
  have k1 := RVCheck_ok (hv.keep (S := fun _ => False) (Fr.refl.push (o := .cells [.int .u64 0, .int .u64 0] 0)) fun _ _ => id)
  obtain ⟨a, cap, rfl, hlen, hc⟩ := hv
  refine zpbQ_runs ?_
  refine stpP ?_
  refine O.call' k1 (fun r h1 hr => ?_)
  obtain ⟨rfl, hf1⟩ := hr
  have n1 := hf1.n
  simp only [Heap.n_push] at n1
  have gA1 : HGet h1 h.n (.cells [.int .u64 0, .int .u64 0] 0) := hf1.keep (b := h.n) HGet.new (by simp) id
  have f1 : Fr (fun _ => False) h h1 := Fr.trans (S := fun _ => False) Fr.refl.push hf1 fun _ _ h => h
  haveI := gA1
  haveI : BLt h.n h1 := ⟨by omega⟩
  refine stpP ?_
  unfold totalS
  refine C.ifN (fun hz => ?_) (fun hz => ?_)
  · refine stpP ?_
    rw [if_neg hz]
    exact ⟨rfl, Fr.set f1 fun h => by omega⟩
  · refine stpP ?_
    obtain ⟨c1, c2, c3, c4⟩ := checkV_ok hz
    obtain ⟨b, o, sp, rfl, hb, hcc⟩ := hc (by omega)
    refine zpbQ_l0_rule (fun m v5 v6 h' => ∃ k : Nat, k ≤ l.length ∧ m = l.length - k ∧ v6 = .int .i64 k ∧ Own h' 1 v5 (ncells (powersV (l.take k))) k ∧ (∀ i, ownedBy v5 i → h1.n ≤ i) ∧ Fr (fun _ => False) h1 h') ?_ l.length ⟨0, by omega, rfl, rfl, .none, fun i hi => hi.elim, Fr.refl⟩
    rintro m v5 v6 h' x13 x14 x15 x16 x17 x18 x19 x20 x21 x22 x23 x24 x25 x26 ⟨k, hk, rfl, rfl, ho, hnew, hf⟩
    refine stpP ?_
    refine C.if (fun hlt => ?_) (fun hge => ?_)
    · have hlt : k < l.length := by omega
      have hcc' : cellsAt h' b o (l.length * 5) = some (vcells l) := by rw [cellsAt_keep (f1.trans' hf) hb id]; exact hcc
      haveI := val_power hcc' rfl hlt
      have hr := c4 _ (getD_mem hlt)
      refine stpP ?_
      have e1 : (l.getD k zVal).p = (((l.getD k zVal).p.toNat : Nat) : Int) := by omega
      have hn' := hf.n
      have f2 : ∀ {o1 : AObj}, Fr (fun _ => False) h' (h'.push o1) := Fr.refl.push
      rw [e1]
      refine O.append (size := 1) (bytes := 8) (n := k) (m := 1) (d := ncells [(l.getD k zVal).p.toNat]) (ho.keep f2 fun _ _ => id) one_int (by simp [ncells]) (ncells_one _) (by omega) (by omega) (by omega) (fun v2 h2 ho2 hf2 hn2 => ?_)
      refine stpP ?_
      refine zpbQ_l0_again (l.length - (k + 1)) (by omega) ⟨k + 1, by omega, rfl, rfl, ?_, fun i hi => ?_, ?_⟩
      · rw [powersV_take hlt, ncells_append]
        exact ho2
      · rcases hn2 i hi with e | e
        · exact hnew i e
        · simp at e; omega
      · exact Fr.trans (S := fun _ => False) (hf.trans' f2) hf2 fun i hi e => by have := hnew i e; omega
    · obtain rfl : k = l.length := by omega
      rw [List.take_length] at *
      refine stpP ?_
      have hm := powersV_mem c4
      have hsl := sumN_le hm
      rw [powersV_len] at hsl
      have hrd := ho.rd
      rw [← powersV_len l] at hrd
      have hn' := hf.n
      refine O.call' (RSum_ok (l := powersV l) hrd (fun n hn => by have := hm n hn; omega) (by omega) (by rw [powersV_len]; omega)) (fun r h2 hr => ?_)
      obtain ⟨rfl, hf2⟩ := hr
      have n2 := hf2.n
      haveI := (hf.trans' hf2).keep gA1 (by omega) id
      haveI : BLt h.n h2 := ⟨by omega⟩
      refine stpP ?_
      rw [hz] at *
      rw [if_pos rfl]
      exact ⟨rfl, Fr.set (f1.trans' (hf.trans' hf2)) fun h => by omega⟩
end Go.Proofs.Ytmfaepkmiceoeaa.A

namespace Go.Proofs.Ytmfaepkmiceoeaa.A
open Go Go.Vm
set_option maxRecDepth 10000
set_option linter.unusedVariables false
def kn (v : Val) : Nat := v.k0.toNat * 16777216 + v.k1.toNat * 65536 + v.k2.toNat * 256 + v.k3.toNat
theorem u8ne {a b : UInt8} : a ≠ b ↔ a.toNat ≠ b.toNat := ⟨fun h e => h (UInt8.toNat_inj.1 e), fun h e => h (by rw [e])⟩
theorem u8lt' {a b : UInt8} : a < b ↔ a.toNat < b.toNat := Iff.rfl
theorem cmp_kn (v w : Val) : cmpB v.key w.key = if kn v < kn w then -1 else if kn v = kn w then 0 else 1 := by
  obtain ⟨a0, a1, a2, a3, p⟩ := v
  obtain ⟨b0, b1, b2, b3, q⟩ := w
  have e : cmpB (Val.key ⟨a0, a1, a2, a3, p⟩) (Val.key ⟨b0, b1, b2, b3, q⟩) = _ := cmp4 a0 a1 a2 a3 b0 b1 b2 b3
  rw [e]
  unfold kn
  simp only [u8ne, u8lt']
  have h0 := a0.toNat_lt; have h1 := a1.toNat_lt; have h2 := a2.toNat_lt; have h3 := a3.toNat_lt
  have g0 := b0.toNat_lt; have g1 := b1.toNat_lt; have g2 := b2.toNat_lt; have g3 := b3.toNat_lt
  generalize a0.toNat = a0 at *; generalize a1.toNat = a1 at *; generalize a2.toNat = a2 at *; generalize a3.toNat = a3 at *
  generalize b0.toNat = b0 at *; generalize b1.toNat = b1 at *; generalize b2.toNat = b2 at *; generalize b3.toNat = b3 at *
  by_cases c0 : a0 = b0
  · rw [if_neg (by omega)]
    by_cases c1 : a1 = b1
    · rw [if_neg (by omega)]
      by_cases c2 : a2 = b2
      · rw [if_neg (by omega)]
        by_cases c3 : a3 = b3
        · rw [if_neg (by omega), if_neg (by omega), if_pos (by omega)]
        · rw [if_pos (by omega)]
          by_cases l : a3 < b3
          · rw [if_pos l, if_pos (by omega)]
          · rw [if_neg l, if_neg (by omega), if_neg (by omega)]
      · rw [if_pos (by omega)]
        by_cases l : a2 < b2
        · rw [if_pos l, if_pos (by omega)]
        · rw [if_neg l, if_neg (by omega), if_neg (by omega)]
    · rw [if_pos (by omega)]
      by_cases l : a1 < b1
      · rw [if_pos l, if_pos (by omega)]
      · rw [if_neg l, if_neg (by omega), if_neg (by omega)]
  · rw [if_pos (by omega)]
    by_cases l : a0 < b0
    · rw [if_pos l, if_pos (by omega)]
    · rw [if_neg l, if_neg (by omega), if_neg (by omega)]
theorem keyLt_kn (v w : Val) : keyLt v.key w.key = decide (kn v < kn w) := by
  unfold keyLt
  rw [cmp_kn]
  by_cases h : kn v < kn w
  · rw [if_pos h]; simp [h]
  · rw [if_neg h]
    by_cases h2 : kn v = kn w
    · rw [if_pos h2]; simp [h2]
    · rw [if_neg h2]; simp [h]
theorem kn_key {v w : Val} : kn v = kn w ↔ v.key = w.key := by
  constructor
  · intro h
    obtain ⟨a0, a1, a2, a3, p⟩ := v
    obtain ⟨b0, b1, b2, b3, q⟩ := w
    unfold kn at h
    have h0 := a0.toNat_lt; have h1 := a1.toNat_lt; have h2 := a2.toNat_lt; have h3 := a3.toNat_lt
    have g0 := b0.toNat_lt; have g1 := b1.toNat_lt; have g2 := b2.toNat_lt; have g3 := b3.toNat_lt
    simp only at h
    have e0 : a0 = b0 := UInt8.toNat_inj.1 (by omega)
    have e1 : a1 = b1 := UInt8.toNat_inj.1 (by omega)
    have e2 : a2 = b2 := UInt8.toNat_inj.1 (by omega)
    have e3 : a3 = b3 := UInt8.toNat_inj.1 (by omega)
    subst e0 e1 e2 e3
    rfl
  · intro h
    unfold kn
    injection h with h0 h
    injection h with h1 h
    injection h with h2 h
    injection h with h3 _
    rw [h0, h1, h2, h3]
theorem steps_rise {least : Int} : ∀ {l : List Val} {o : Option Val}, stepsV least o l = 0 → (∀ x, o = some x → ∀ v ∈ l, kn x < kn v) ∧ l.Pairwise (fun a b => kn a < kn b)
  | [], _, _ => ⟨(fun _ _ v hv => (by cases hv)), List.Pairwise.nil⟩
  | v :: l, o, h => by
    have key : ∀ b : Bool, (if b = true then (9 : Int) else if v.p < least ∨ 4611686018427387904 < v.p then 3 else stepsV least (some v) l) = 0 → b = false ∧ stepsV least (some v) l = 0 := by
      intro b h
      by_cases hA : b = true
      · rw [if_pos hA] at h; cases h
      · rw [if_neg hA] at h
        by_cases hB : v.p < least ∨ 4611686018427387904 < v.p
        · rw [if_pos hB] at h; cases h
        · rw [if_neg hB] at h
          exact ⟨by simpa using hA, h⟩
    obtain ⟨h1, h2⟩ := key _ h
    obtain ⟨h3, h4⟩ := steps_rise h2
    have hv := h3 v rfl
    refine ⟨fun x hx w hw => ?_, .cons hv h4⟩
    subst hx
    have hxv : kn x < kn v := by
      have h1 : (!keyLt x.key v.key) = false := h1
      rw [keyLt_kn] at h1
      simpa using h1
    rcases List.mem_cons.1 hw with rfl | hw
    · exact hxv
    · have := hv w hw; omega
theorem rises {l : List Val} (h : checkV l = 0) {i j : Nat} (hij : i < j) (hj : j < l.length) : kn (l.getD i zVal) < kn (l.getD j zVal) := by
  obtain ⟨_, _, c3, _⟩ := checkV_ok h
  have hp := (steps_rise c3).2
  have := List.pairwise_iff_getElem.1 hp i j (by omega) hj hij
  simpa [List.getD, hj, show i < l.length by omega] using this
end Go.Proofs.Ytmfaepkmiceoeaa.A

namespace Go.Proofs.Ytmfaepkmiceoeaa.A
open Go Go.Vm
set_option maxRecDepth 10000
set_option linter.unusedVariables false
abbrev Val.kcells (v : Val) : List Value := [.int .u8 v.k0.toNat, .int .u8 v.k1.toNat, .int .u8 v.k2.toNat, .int .u8 v.k3.toNat]
theorem compare_ok {h : Heap} {v w : Val} : Runs Try.prog T0 (.fn fn_zfcQ) [.agg ⟨v.cells⟩, .agg ⟨w.kcells⟩] h (fun r h' => r = .int .i64 (cmpB v.key w.key) ∧ Fr (fun _ => False) h h') (fun _ _ => False) := by
  refine zfcQ_runs ?_
  refine stp ?_
  refine D.callX (Compare_ok (a := v.key) (b := w.key) (Rd.mk (n := 4) (by simp; omega) ?_) (Rd.mk (n := 4) (by simp) ?_)) (fun _ _ _ => rfl) (fun r h1 hr => ?_) (fun _ _ hx => hx.elim)
  · rw [cellsAt_of (c := v.cells) (by rw [Heap.get_push, if_neg (by simp), Heap.get_push, if_pos rfl]; rfl) (by simp)]
    rfl
  · rw [cellsAt_of (c := w.kcells) (by rw [Heap.get_push, if_pos rfl]; rfl) (by simp)]
    rfl
  obtain ⟨rfl, rfl⟩ := hr
  refine stp ?_
  exact ⟨rfl, Fr.refl.push.push⟩
theorem shr1 {P : Program} {ts : List Value} {h : Heap} {x y : Operand} {t t' ty : TypeId} {J : IntKind} {n : Nat} [e1 : Ev ts x (.int .u64 (n : Nat))] [e2 : Ev ts y (.int J 1)] : XOp P ts h (.bin .shr (so (.binOp .shr t x y t') ty) x y) (.int .u64 ((n / 2 : Nat) : Int)) h := by
  have := XOp.shr (P := P) (ts := ts) (h := h) (x := x) (y := y) (t := t) (t' := t') (ty := ty) (K := .u64) (J := J) (p := (n : Int)) (q := 1) (by omega)
  rw [show ((n : Int).fdiv (2 ^ (min (1 : Int).toNat IntKind.u64.bits))) = ((n / 2 : Nat) : Int) from by
    rw [show (2 : Int) ^ (min (1 : Int).toNat IntKind.u64.bits) = 2 from rfl, Int.fdiv_eq_ediv_of_nonneg _ (by omega)]
    omega] at this
  exact this
def atV (l : List Val) (w : Val) (i : Nat) : Prop := i ≤ l.length ∧ (∀ t, t < i → kn (l.getD t zVal) < kn w) ∧ ∀ t, i ≤ t → t < l.length → kn w ≤ kn (l.getD t zVal)
set_option maxHeartbeats 1000000 in
theorem Search_ok {h : Heap} {v : Value} {l : List Val} {w : Val} (hv : Rd h 5 v (vcells l) l.length) (hl : l.length < 1048576) (hup : ∀ i j, i < j → j < l.length → kn (l.getD i zVal) < kn (l.getD j zVal)) :
    Runs Try.prog T0 (.fn fn_zrbQ) [v, .agg ⟨w.kcells⟩, .func (.func fn_zfcQ) ⟨[]⟩ ⟨[]⟩] h
      (fun r h' => ∃ i, atV l w i ∧ r = .tuple ⟨[.int .i64 (i : Nat), .bool (decide (i < l.length ∧ kn (l.getD i zVal) = kn w))]⟩ ∧ Fr (fun _ => False) h h') (fun _ _ => False) := by
  obtain ⟨a, cap, rfl, hlen, hc⟩ := hv
  refine zrbQ_runs ?_
  refine stp ?_
  refine zrbQ_l0_rule (fun m v9 v10 h' => ∃ i j : Nat, i ≤ j ∧ j ≤ l.length ∧ m = j - i ∧ v9 = .int .i64 i ∧ v10 = .int .i64 j ∧ (∀ t, t < i → kn (l.getD t zVal) < kn w) ∧ (∀ t, j ≤ t → t < l.length → kn w ≤ kn (l.getD t zVal)) ∧ h'.get h.n = .cells w.kcells 0 ∧ h.n < h'.n ∧ Fr (fun _ => False) h h') ?_ l.length ⟨0, l.length, by omega, Nat.le_refl _, by omega, rfl, rfl, fun t ht => by omega, fun t h1 h2 => by omega, by rw [Heap.get_push, if_pos rfl], by simp, Fr.refl.push⟩
  rintro m v9 v10 h' x11 x15 x16 x17 x18 x19 x20 x21 x22 x23 x24 x25 x26 x27 x28 x29 x30 x31 x32 x33 x34 ⟨i, j, hij, hj, rfl, rfl, rfl, hlo, hhi, hg, hn, hf⟩
  haveI : HGet h' h.n _ := ⟨hg⟩
  haveI : BLt h.n h' := ⟨hn⟩
  refine stp ?_
  refine C.if (fun hlt => ?_) (fun hge => ?_)
  · have hlt : i < j := by omega
    refine stp ?_
    rw [show ((i : Nat) : Int) + ((j : Nat) : Int) = (((i + j : Nat)) : Int) from by omega]
    refine O.how shr1 ?_
    obtain ⟨md, hmd⟩ : ∃ md : Nat, md = (i + j) / 2 := ⟨_, rfl⟩
    rw [← hmd]
    have hm1 : i ≤ md := by omega
    have hm2 : md < j := by omega
    obtain ⟨b, o, sp, rfl, hb, hcc⟩ := hc (by omega)
    have hcc' : cellsAt h' b o (l.length * 5) = some (vcells l) := by rw [cellsAt_keep hf hb id]; exact hcc
    haveI := val_cells hcc' rfl (show md < l.length by omega)
    refine stp ?_
    refine D.callX (compare_ok (v := l.getD md zVal) (w := w)) (fun _ _ _ => rfl) (fun r h1 hr => ?_) (fun _ _ hx => hx.elim)
    obtain ⟨rfl, hf1⟩ := hr
    have n1 := hf1.n
    rw [cmp_kn]
    refine stp ?_
    refine C.if (fun hc1 => ?_) (fun hc1 => ?_)
    · have hkn : kn (l.getD md zVal) < kn w := by
        apply Classical.byContradiction
        intro hno
        rw [if_neg hno] at hc1
        split at hc1 <;> omega
      refine stp ?_
      refine zrbQ_l0_again (j - (md + 1)) (by omega) ⟨md + 1, j, by omega, hj, rfl, rfl, rfl, fun t ht => ?_, hhi, by rw [hf1.get _ hn id, hg], by omega, hf.trans' hf1⟩
      rcases Nat.lt_or_ge t md with h2 | h2
      · have := hup t md h2 (by omega); omega
      · obtain rfl : t = md := by omega
        exact hkn
    · have hkn : kn w ≤ kn (l.getD md zVal) := by
        apply Classical.byContradiction
        intro hno
        rw [if_pos (by omega)] at hc1
        omega
      refine stp ?_
      refine zrbQ_l0_again (md - i) (by omega) ⟨i, md, by omega, by omega, rfl, rfl, rfl, hlo, fun t h1 h2 => ?_, by rw [hf1.get _ hn id, hg], by omega, hf.trans' hf1⟩
      rcases Nat.lt_or_ge md t with h3 | h3
      · have := hup md t h3 h2; omega
      · obtain rfl : t = md := by omega
        exact hkn
  · obtain rfl : i = j := by omega
    refine stp ?_
    refine D.dec (fun hin => ?_) (fun hout => ?_)
    · have hin : i < l.length := by omega
      obtain ⟨b, o, sp, rfl, hb, hcc⟩ := hc (by omega)
      have hcc' : cellsAt h' b o (l.length * 5) = some (vcells l) := by rw [cellsAt_keep hf hb id]; exact hcc
      haveI := val_cells hcc' rfl hin
      refine stp ?_
      refine D.howT (XOp.mkIndexSl (by omega)) rfl ?_
      refine stp ?_
      refine D.callT (compare_ok (v := l.getD i zVal) (w := w)) (fun _ _ _ => ?_) (fun r h1 hr => ?_)
      · exact StabL.ok
      obtain ⟨rfl, hf1⟩ := hr
      rw [cmp_kn]
      refine stp ?_
      refine ⟨i, ⟨hj, hlo, hhi⟩, ?_, hf.trans' hf1⟩
      have hd : decide ((if kn (l.getD i zVal) < kn w then (-1 : Int) else if kn (l.getD i zVal) = kn w then 0 else 1) = 0) = decide (i < l.length ∧ kn (l.getD i zVal) = kn w) := by
        refine decide_eq_decide.2 ⟨fun h => ⟨hin, ?_⟩, fun h => ?_⟩
        · apply Classical.byContradiction
          intro hno
          rw [if_neg hno] at h
          split at h <;> omega
        · rw [if_neg (by omega), if_pos h.2]
      rw [← hd]
    · refine stp ?_
      refine D.skT ?_ ?_
      · exact StabL.ok
      refine stp ?_
      refine ⟨i, ⟨hj, hlo, hhi⟩, ?_, hf⟩
      rw [decide_eq_false (fun h => hout (by omega))]
end Go.Proofs.Ytmfaepkmiceoeaa.A

namespace Go.Proofs.Ytmfaepkmiceoeaa.A
open Go Go.Vm
set_option maxRecDepth 10000
set_option linter.unusedVariables false
theorem same_key {v w : Val} : same v.kcells w.kcells = decide (kn v = kn w) := by
  by_cases h : kn v = kn w
  · rw [decide_eq_true h]
    have hk := kn_key.1 h
    have : v.kcells = w.kcells := congrArg bcells hk
    rw [this]
    exact same_self _
  · rw [decide_eq_false h]
    refine same_ne.2 fun h2 => h (kn_key.2 ?_)
    have h2 : bcells v.key = bcells w.key := h2
    have := congrArg bytesOf h2
    rw [bytesOf_bcells, bytesOf_bcells] at this
    injection this
def findN (l : List Val) (w : Val) : Option Nat := l.findIdx? fun v => decide (kn v = kn w)
def findA (l : List Val) (w : Val) : Nat := (findN l w).getD 0
theorem findN_some {l : List Val} {w : Val} {i : Nat} (hi : i < l.length) (h : kn (l.getD i zVal) = kn w) (hf : ∀ t, t < i → kn (l.getD t zVal) ≠ kn w) : findN l w = some i := by
  unfold findN
  rw [List.findIdx?_eq_some_iff_getElem]
  refine ⟨hi, by simpa [List.getD, hi] using h, fun t ht => ?_⟩
  have := hf t ht
  simpa [List.getD, show t < l.length by omega] using this
theorem findN_none {l : List Val} {w : Val} (hf : ∀ t, t < l.length → kn (l.getD t zVal) ≠ kn w) : findN l w = none := by
  unfold findN
  rw [List.findIdx?_eq_none_iff]
  intro v hv
  obtain ⟨t, ht, rfl⟩ := List.getElem_of_mem hv
  have := hf t ht
  simpa [List.getD, ht] using this
theorem Find1_ok {h : Heap} {q : Nat} {v w : Val} (hg : h.get q = .cells w.kcells 0) (hq : q < h.n) : Runs Try.prog T0 (.fn fn_zccQ) [.agg ⟨v.cells⟩, .pointer (some ⟨q, 0, none⟩)] h (fun r h' => r = .bool (decide (kn v = kn w)) ∧ Fr (fun _ => False) h h') (fun _ _ => False) := by
  haveI : HGet h q _ := ⟨hg⟩
  haveI : BLt q h := ⟨hq⟩
  refine zccQ_runs ?_
  refine stp ?_
  rw [← same_key]
  exact ⟨rfl, Fr.refl.push⟩
theorem IndexFunc_ok {h : Heap} {q : Nat} {v : Value} {l : List Val} {w : Val} (hv : Rd h 5 v (vcells l) l.length) (hl : l.length < 1048576) (hg : h.get q = .cells w.kcells 0) (hq : q < h.n) :
    Runs Try.prog T0 (.fn fn_zvbQ) [v, .func (.func fn_zccQ) ⟨[]⟩ ⟨[.pointer (some ⟨q, 0, none⟩)]⟩] h
      (fun r h' => r = .int .i64 (match findN l w with | some i => ((i : Nat) : Int) | none => -1) ∧ Fr (fun _ => False) h h') (fun _ _ => False) := by
  obtain ⟨a, cap, rfl, hlen, hc⟩ := hv
  refine zvbQ_runs ?_
  refine stp ?_
  refine zvbQ_l0_rule (fun m v8 h' => ∃ k : Nat, k ≤ l.length ∧ m = l.length - k ∧ v8 = .int .i64 k ∧ (∀ t, t < k → kn (l.getD t zVal) ≠ kn w) ∧ Fr (fun _ => False) h h') ?_ l.length ⟨0, by omega, rfl, rfl, fun t ht => by omega, Fr.refl⟩
  rintro m v8 h' x4 x5 x9 x10 x11 x12 x13 x14 x15 x16 x17 x18 ⟨k, hk, rfl, rfl, hno, hf⟩
  refine stp ?_
  refine C.if (fun hlt => ?_) (fun hge => ?_)
  · have hlt : k < l.length := by omega
    obtain ⟨b, o, sp, rfl, hb, hcc⟩ := hc (by omega)
    have hcc' : cellsAt h' b o (l.length * 5) = some (vcells l) := by rw [cellsAt_keep hf hb id]; exact hcc
    haveI := val_cells hcc' rfl hlt
    have n' := hf.n
    refine stp ?_
    refine O.call' (Find1_ok (v := l.getD k zVal) (w := w) (by rw [hf.get _ hq id, hg]) (by omega)) (fun r h1 hr => ?_)
    obtain ⟨rfl, hf1⟩ := hr
    refine stp ?_
    refine C.if (fun hy => ?_) (fun hn => ?_)
    · refine stp ?_
      rw [findN_some hlt hy hno]
      exact ⟨rfl, hf.trans' hf1⟩
    · refine stp ?_
      refine zvbQ_l0_again (l.length - (k + 1)) (by omega) ⟨k + 1, by omega, rfl, rfl, fun t ht => ?_, hf.trans' hf1⟩
      rcases Nat.lt_or_ge t k with h2 | h2
      · exact hno t h2
      · obtain rfl : t = k := by omega
        exact hn
  · obtain rfl : k = l.length := by omega
    refine stp ?_
    rw [findN_none hno]
    exact ⟨rfl, hf⟩
theorem Find_ok {h : Heap} {v : Value} {l : List Val} {w : Val} (hv : Rd h 5 v (vcells l) l.length) (hl : l.length < 1048576) :
    Runs Try.prog T0 (.fn fn_zbcQ) [v, .agg ⟨w.kcells⟩] h (fun r h' => r = .tuple ⟨[.int .i64 (findA l w : Nat), .bool (findN l w).isSome]⟩ ∧ Fr (fun _ => False) h h') (fun _ _ => False) := by
  have hv0 := hv
  obtain ⟨a, cap, rfl, hlen, _⟩ := hv
  refine zbcQ_runs ?_
  refine stp ?_
  have f0 : Fr (fun _ => False) h (h.push (.cells w.kcells 0)) := Fr.refl.push
  have g0 : HGet (h.push (.cells w.kcells 0)) h.n (.cells w.kcells 0) := HGet.new
  have n0 : (h.push (.cells w.kcells 0)).n = h.n + 1 := rfl
  generalize h.push (.cells w.kcells 0) = h0 at *
  refine O.call' (VCheck_ok (hv0.keep f0 fun _ _ => id)) (fun r h1 hr => ?_)
  obtain ⟨rfl, hf1⟩ := hr
  have n1 := hf1.n
  have g1 := hf1.keep g0 (by omega) id
  have f1 := f0.trans' hf1
  haveI := g1
  refine stp ?_
  refine C.if (fun hz => ?_) (fun hz => ?_)
  · refine stp ?_
    refine O.call' (Search_ok (w := w) (hv0.keep f1 fun _ _ => id) hl (fun i j hij hj => rises hz hij hj)) (fun r h2 hr => ?_)
    obtain ⟨i, ⟨hi, hlo, hhi⟩, rfl, hf2⟩ := hr
    refine stp ?_
    by_cases hy : i < l.length ∧ kn (l.getD i zVal) = kn w
    · rw [decide_eq_true hy]
      refine stp ?_
      have hs := findN_some hy.1 hy.2 fun t ht => by have := hlo t ht; omega
      unfold findA
      rw [hs]
      exact ⟨rfl, f1.trans' hf2⟩
    · rw [decide_eq_false hy]
      refine stp ?_
      have hs : findN l w = none := findN_none fun t ht => by
        rcases Nat.lt_or_ge t i with h2 | h2
        · have := hlo t h2; omega
        · rcases Nat.lt_or_ge i t with h3 | h3
          · have h4 := rises hz h3 ht
            have h5 := hhi i (Nat.le_refl _) (by omega)
            omega
          · obtain rfl : t = i := by omega
            exact fun h => hy ⟨ht, h⟩
      unfold findA
      rw [hs]
      exact ⟨rfl, f1.trans' hf2⟩
  · refine stp ?_
    refine O.call' (IndexFunc_ok (w := w) (hv0.keep f1 fun _ _ => id) hl g1.eq (by omega)) (fun r h2 hr => ?_)
    obtain ⟨rfl, hf2⟩ := hr
    unfold findA
    cases hs : findN l w with
    | none =>
      refine stp ?_
      exact ⟨rfl, f1.trans' hf2⟩
    | some i =>
      refine stp ?_
      refine ⟨?_, f1.trans' hf2⟩
      have e1 : (if (0 : Int) > ((i : Nat) : Int) then (0 : Int) else ((i : Nat) : Int)) = ((i : Nat) : Int) := if_neg (by omega)
      have e2 : decide ((0 : Int) ≤ ((i : Nat) : Int)) = true := decide_eq_true (by omega)
      show Value.tuple ⟨[.int .i64 (if (0 : Int) > ((i : Nat) : Int) then (0 : Int) else ((i : Nat) : Int)), .bool (decide ((0 : Int) ≤ ((i : Nat) : Int)))]⟩ = _
      rw [e1, e2]
      rfl
end Go.Proofs.Ytmfaepkmiceoeaa.A

namespace Go.Proofs.Ytmfaepkmiceoeaa.A
open Go Go.Vm
set_option maxRecDepth 10000
set_option linter.unusedVariables false
theorem RFind_ok {h : Heap} {v : Value} {l : List Val} {w : Val} (hv : Rd h 5 v (vcells l) l.length) (hl : l.length < 1048576) :
    Runs Try.prog T0 (.fn fn_zmbQ) [v, .agg ⟨w.kcells⟩] h (fun r h' => r = .tuple ⟨[.int .i64 (findA l w : Nat), .bool (findN l w).isSome]⟩ ∧ Fr (fun _ => False) h h') (fun _ _ => False) := by
  obtain ⟨a, cap, rfl, hlen, hc⟩ := hv
  refine zmbQ_runs ?_
  refine stp ?_
  refine zmbQ_l0_rule (fun m v6 h' => ∃ k : Nat, k ≤ l.length ∧ m = l.length - k ∧ v6 = .int .i64 k ∧ (∀ t, t < k → kn (l.getD t zVal) ≠ kn w) ∧ h'.get h.n = .cells w.kcells 0 ∧ h.n < h'.n ∧ Fr (fun _ => False) h h') ?_ l.length ⟨0, by omega, rfl, rfl, fun t ht => by omega, by rw [Heap.get_push, if_pos rfl], by simp, Fr.refl.push⟩
  rintro m v6 h' x4 x5 x7 x8 x9 x10 x11 x12 x13 x14 x15 x16 x17 x18 x19 x20 ⟨k, hk, rfl, rfl, hno, hg, hn, hf⟩
  haveI : HGet h' h.n _ := ⟨hg⟩
  haveI : BLt h.n h' := ⟨hn⟩
  refine stp ?_
  unfold findA
  refine C.if (fun hlt => ?_) (fun hge => ?_)
  · have hlt : k < l.length := by omega
    obtain ⟨b, o, sp, rfl, hb, hcc⟩ := hc (by omega)
    have hcc' : cellsAt h' b o (l.length * 5) = some (vcells l) := by rw [cellsAt_keep hf hb id]; exact hcc
    haveI := val_key hcc' rfl hlt
    refine stp ?_
    have hs : same [.int .u8 (l.getD k zVal).k0.toNat, .int .u8 (l.getD k zVal).k1.toNat, .int .u8 (l.getD k zVal).k2.toNat, .int .u8 (l.getD k zVal).k3.toNat] w.kcells = decide (kn (l.getD k zVal) = kn w) := same_key
    rw [hs]
    refine C.if (fun hy => ?_) (fun hn2 => ?_)
    · refine stp ?_
      rw [findN_some hlt hy hno]
      exact ⟨rfl, hf⟩
    · refine stp ?_
      refine zmbQ_l0_again (l.length - (k + 1)) (by omega) ⟨k + 1, by omega, rfl, rfl, fun t ht => ?_, hg, hn, hf⟩
      rcases Nat.lt_or_ge t k with h2 | h2
      · exact hno t h2
      · obtain rfl : t = k := by omega
        exact hn2
  · obtain rfl : k = l.length := by omega
    refine stp ?_
    rw [findN_none hno]
    exact ⟨rfl, hf⟩
end Go.Proofs.Ytmfaepkmiceoeaa.A

namespace Go.Proofs.Ytmfaepkmiceoeaa.A
open Go Go.Vm
set_option maxRecDepth 10000
set_option linter.unusedVariables false
theorem SameVals_same {h : Heap} {v w : Value} {l : List Val} (hv : Rd h 5 v (vcells l) l.length) (hw : Rd h 5 w (vcells l) l.length) (hs : l.length < 1048576) :
    Runs Try.prog T0 (.fn fn_zrQ) [v, w] h (fun r h' => r = .bool true ∧ h' = h) (fun _ _ => False) := by
  obtain ⟨a, cap, rfl, hlen, hc⟩ := hv
  obtain ⟨a', cap', rfl, hlen', hc'⟩ := hw
  refine zrQ_runs ?_
  refine stpP ?_
  refine zrQ_l0_rule (fun m v5 v6 h' => ∃ k : Nat, k ≤ l.length ∧ m = l.length - k ∧ v6 = .int .i64 k ∧ v5 = .bool true ∧ h' = h) ?_ l.length ⟨0, by omega, rfl, rfl, by simp, rfl⟩
  rintro m v5 v6 h' x12 x13 x14 x15 x16 x17 x18 x19 x20 x21 x22 x23 x24 x25 x26 x27 x28 x29 ⟨k, hk, rfl, rfl, rfl, rfl⟩
  refine stpP ?_
  refine C.if (fun hlt => ?_) (fun hge => ?_)
  · have hlt : k < l.length := by omega
    obtain ⟨b, o, sp, rfl, hb, hcc⟩ := hc (by omega)
    obtain ⟨b', o', sp', rfl, hb', hcc'⟩ := hc' (by omega)
    haveI := val_cells hcc rfl hlt
    haveI := val_cells hcc' rfl hlt
    refine stpP ?_
    rw [same_self]
    exact zrQ_l0_again (l.length - (k + 1)) (by omega) ⟨k + 1, by omega, rfl, rfl, rfl, rfl⟩
  · refine stpP ?_
    exact ⟨rfl, rfl⟩
theorem Rd.block_lt {h : Heap} {size n : Nat} {v : Value} {c : List Value} (hv : Rd h size v c n) {i : Nat} (hi : blockOf v i) : i < h.n := by
  obtain ⟨a, cap, rfl, _, hc⟩ := hv
  cases a with
  | none => exact hi.elim
  | some a =>
    obtain ⟨h1, h2⟩ := hi
    obtain ⟨b, o, sp, e, hb, _⟩ := hc h2
    cases e
    subst h1
    exact hb
end Go.Proofs.Ytmfaepkmiceoeaa.A

namespace Go.Proofs.Ytmfaepkmiceoeaa.A
open Go Go.Vm
set_option maxRecDepth 10000
set_option linter.unusedVariables false
theorem SameBytes_ok {h : Heap} {v w : Value} {a b : List UInt8} (hv : Rd h 1 v (bcells a) a.length) (hw : Rd h 1 w (bcells b) b.length) :
    Runs Try.prog T0 (.fn fn_zqQ) [v, w] h (fun r h' => r = .bool (decide (a = b)) ∧ h' = h) (fun _ _ => False) := by
  refine zqQ_runs ?_
  refine stp ?_
  refine O.how (XOp.mkStr hv) ?_
  refine stp ?_
  refine O.how (XOp.mkStr hw) ?_
  refine stp ?_
  refine ⟨?_, rfl⟩
  congr 1
  rw [ByteArray.toList_eq, ByteArray.toList_eq]
  show (a == b) = decide (a = b)
  by_cases e : a = b
  · subst e; simp
  · simp [e]
end Go.Proofs.Ytmfaepkmiceoeaa.A

namespace Go.Proofs.Ytmfaepkmiceoeaa.A
open Go Go.Vm
set_option maxRecDepth 10000
set_option linter.unusedVariables false
def u8of (n : Int) : UInt8 := UInt8.ofNat (IntKind.u8.wrap n).toNat
theorem u8of_eq (n : Int) : IntKind.u8.wrap n = ((u8of n).toNat : Nat) := by
  unfold u8of
  rw [wrap_u8, UInt8.toNat_ofNat']
  omega
theorem over_pre : ∀ (l m : List Value) (k : Nat) (v : Value), k < l.length → over (l ++ m) k [v] = over l k [v] ++ m
  | [], _, _, _, h => by simp at h
  | a :: l, m, 0, v, _ => by
    show v :: over (l ++ m) 0 [] = (v :: over l 0 []) ++ m
    rw [over_nil, over_nil]; rfl
  | a :: l, m, k + 1, v, h => by
    show a :: over (l ++ m) k [v] = (a :: over l k [v]) ++ m
    rw [over_pre l m k v (by simpa using h)]; rfl
theorem lget_pre : ∀ (l m : List Value) (k : Nat), k < l.length → lget (l ++ m) k = lget l k
  | [], _, _, h => by simp at h
  | a :: l, m, 0, _ => rfl
  | a :: l, m, k + 1, h => lget_pre l m k (by simpa using h)
theorem byte_cell {h : Heap} {q es k : Nat} {l : List UInt8} {j : List Value} (hg : h.get q = .cells (bcells l ++ j) es) (hk : k < l.length) : Cell h q k (.int .u8 ((l.getD k 0).toNat : Nat)) := ⟨by
  rw [cellsAt_of (c := bcells l ++ j) (by rw [hg]; rfl) (by simp [bcells_len]; omega), take_one _ _ (by simp [bcells_len]; omega), lget_pre _ _ _ (by rw [bcells_len]; exact hk), (bcells_get hk).eq]⟩
theorem byte_put {h : Heap} {q es k : Nat} {l : List UInt8} {j : List Value} (hg : h.get q = .cells (bcells l ++ j) es) (hk : k < l.length) (n : Int) : Put h q k [.int .u8 (IntKind.u8.wrap n)] (h.set q (.cells (bcells (l.set k (u8of n)) ++ j) es)) := ⟨by
  simp only [putAt, hg]
  rw [if_pos ⟨by simp [bcells_len]; omega, rfl⟩, over_pre _ _ _ _ (by rw [bcells_len]; exact hk), u8of_eq, bcells_set hk]⟩
theorem OverBytes_ok {h : Heap} {v : Value} {l : List UInt8} {n : Nat} (ho : Own h 1 v (bcells l) n) (hs : n < 1048576) : Runs Try.prog T0 (.fn fn_zpQ) [v] h
    (fun r h' => Fr (ownedBy v) h h') (fun _ _ => False) := by
  have hlen := ho.len
  rw [bcells_len, Nat.mul_one] at hlen
  refine zpQ_runs ?_
  refine stp ?_
  have hsl : ∃ a cap, v = .slice a n cap ∧ (0 < n → ∃ q k, a = some ⟨q, 0, some k⟩) := by
    clear hlen
    generalize bcells l = c at ho
    cases ho with
    | none => exact ⟨_, _, rfl, fun h => by omega⟩
    | lit _ _ => exact ⟨_, _, rfl, fun h => by omega⟩
    | grown _ _ _ _ _ _ => exact ⟨_, _, rfl, fun _ => ⟨_, _, rfl⟩⟩
  have hin : ∃ j es, ∀ q k cap, v = .slice (some ⟨q, 0, some k⟩) n cap → q < h.n ∧ h.get q = .cells (bcells l ++ j) es := by
    clear hlen hsl
    generalize bcells l = c at ho
    cases ho with
    | none => exact ⟨[], 0, fun q k cap h => by cases h⟩
    | lit _ _ => exact ⟨[], 0, fun q k cap h => by cases h⟩
    | grown hq _ _ _ _ hg => exact ⟨_, _, fun q k cap h => by cases h; exact ⟨hq, hg⟩⟩
  obtain ⟨a, cap, rfl, ha⟩ := hsl
  obtain ⟨j, es, hin⟩ := hin
  refine zpQ_l0_rule (fun m v2 h' => ∃ k : Nat, k ≤ n ∧ m = n - k ∧ v2 = .int .i64 k ∧ (∃ l' : List UInt8, l'.length = n ∧ ∀ q s, a = some ⟨q, 0, some s⟩ → h'.get q = .cells (bcells l' ++ j) es) ∧ Fr (ownedBy (.slice a n cap)) h h') ?_ n ⟨0, by omega, rfl, rfl, ⟨l, hlen, fun q s e => by subst e; exact (hin q s cap rfl).2⟩, Fr.refl⟩
  rintro m v2 h' x3 x4 x5 x6 x7 x8 x9 x10 x11 x12 x13 x14 x15 x16 ⟨k, hk, rfl, rfl, ⟨l', hl', hg⟩, hf⟩
  refine stp ?_
  refine C.if (fun hlt => ?_) (fun hge => ?_)
  · have hk : k < n := by omega
    obtain ⟨q, s, rfl⟩ := ha (by omega)
    have hgq := hg q s rfl
    have hq := (hin q s cap rfl).1
    haveI := byte_cell hgq (k := k) (by omega)
    haveI := byte_put hgq (k := k) (by omega)
    haveI : BLt q h' := ⟨hf.lt hq⟩
    have hw : ∀ z : UInt8, (l'.set k z).length = n := fun z => by rw [List.length_set]; exact hl'
    refine stp ?_
    refine O.how XOp.xorI ?_
    refine stp ?_
    refine zpQ_l0_again (n - (k + 1)) (by omega) ⟨k + 1, by omega, rfl, rfl, ⟨_, hw _, fun q' s' e => by cases e; rw [Heap.get_set, if_pos rfl]⟩, hf.set fun _ => rfl⟩
  · refine stp ?_
    exact hf
end Go.Proofs.Ytmfaepkmiceoeaa.A

namespace Go.Proofs.Ytmfaepkmiceoeaa.A
open Go Go.Vm
set_option maxRecDepth 10000
set_option linter.unusedVariables false
set_option linter.unusedSimpArgs false
set_option maxHeartbeats 8000000 in
theorem ValsTells_true {h : Heap} {v : Value} {l : List Val} {w : Val} (hv : Rd h 5 v (vcells l) l.length) :
    Runs Try.prog T0 (.fn fn_zsQ) [v, .agg ⟨w.kcells⟩] h (fun r h' => r = .bool true) (fun _ _ => False) := by
  have hv0 := hv
  obtain ⟨a, cap, rfl, hlen, _⟩ := hv
  refine zsQ_runs ?_
  refine stp ?_
  refine C.if (fun h2 => ?_) (fun h2 => ?_)
  · refine stp ?_
    refine O.call' ztQ_known (fun r h1 hr => ?_)
    obtain ⟨rfl, rfl⟩ := hr
    refine stp ?_
    rfl
  refine stp ?_
  have hl80 : l.length ≤ 80 := by omega
  have gA0 : HGet (h.push (.cells w.kcells 0)) h.n (.cells w.kcells 0) := HGet.new
  have f0 : Fr (fun _ => False) h (h.push (.cells w.kcells 0)) := Fr.refl.push
  have n0 : (h.push (.cells w.kcells 0)).n = h.n + 1 := rfl
  generalize h.push (.cells w.kcells 0) = h0 at *
  refine O.call' (CopyVals_ok (hv0.keep f0 fun _ _ => id) (by omega)) (fun r h1 hr => ?_)
  obtain ⟨ho1, hf1, hnew1⟩ := hr
  have n1 := hf1.n
  obtain ⟨a1, cap1, rfl, hl1, _⟩ := id ho1.rd
  have hr1 := ho1.rd
  have gA1 := hf1.keep gA0 (by omega) id
  have f1 := f0.trans' hf1
  refine stp ?_
  refine O.call' (VTotal_ok hr1) (fun r h2 hr => ?_)
  obtain ⟨rfl, hf2⟩ := hr
  have n2 := hf2.n
  refine stp ?_
  have f23 : Fr (fun _ => False) h2 (h2.push (.cells (wide (totalS l)) 0)) := Fr.refl.push
  have gT3 : HGet (h2.push (.cells (wide (totalS l)) 0)) h2.n (.cells (wide (totalS l)) 0) := HGet.new
  have n3 : (h2.push (.cells (wide (totalS l)) 0)).n = h2.n + 1 := rfl
  generalize h2.push (.cells (wide (totalS l)) 0) = h3 at *
  have f13 := hf2.trans' f23
  refine O.call' (RVTotal_ok (hv0.keep (f1.trans' f13) fun _ _ => id)) (fun r h4 hr => ?_)
  obtain ⟨rfl, hf4⟩ := hr
  have n4 := hf4.n
  refine stp ?_
  have f45 : Fr (fun _ => False) h4 (h4.push (.cells (wide (totalS l)) 0)) := Fr.refl.push
  have gU5 : HGet (h4.push (.cells (wide (totalS l)) 0)) h4.n (.cells (wide (totalS l)) 0) := HGet.new
  have n5 : (h4.push (.cells (wide (totalS l)) 0)).n = h4.n + 1 := rfl
  generalize h4.push (.cells (wide (totalS l)) 0) = h5 at *
  have f35 := hf4.trans' f45
  have f15 := f13.trans' f35
  have gT5 := f35.keep gT3 (by omega) id
  have gA5 := f15.keep gA1 (by omega) id
  haveI := gA5
  refine stp ?_
  refine O.call' (Find_ok (w := w) (hr1.keep f15 fun _ _ => id) (by omega)) (fun r h6 hr => ?_)
  obtain ⟨rfl, hf6⟩ := hr
  have n6 := hf6.n
  have gA6 := hf6.keep gA5 (by omega) id
  have f16 := f15.trans' hf6
  haveI := gA6
  refine stp ?_
  refine O.call' (RFind_ok (w := w) (hv0.keep (f1.trans' f16) fun _ _ => id) (by omega)) (fun r h7 hr => ?_)
  obtain ⟨rfl, hf7⟩ := hr
  have n7 := hf7.n
  have f17 := f16.trans' hf7
  refine stp ?_
  refine O.call' (VEncode_ok (hr1.keep f17 fun _ _ => id)) (fun r h8 hr => ?_)
  obtain ⟨b1, rfl, hb1, hbn1, hf8⟩ := hr
  have n8 := hf8.n
  have f18 := f17.trans' hf8
  obtain ⟨ab1, cb1, rfl, hlb1, _⟩ := id hb1.rd
  refine stp ?_
  refine O.call' (RVEncode_ok (hv0.keep (f1.trans' f18) fun _ _ => id) (by omega)) (fun r h9 hr => ?_)
  obtain ⟨b2, rfl, hb2, hbn2, hf9⟩ := hr
  have n9 := hf9.n
  have f19 := f18.trans' hf9
  obtain ⟨ab2, cb2, rfl, hlb2, _⟩ := id hb2.rd
  refine stp ?_
  refine O.call' (VHash_ok (hr1.keep f19 fun _ _ => id)) (fun r h10 hr => ?_)
  obtain ⟨rfl, hf10⟩ := hr
  have n10 := hf10.n
  have f110 := f19.trans' hf10
  have hhl : (if checkV l = 0 then sumS (encV l) else zb32).length = 32 := by
    split
    · exact sumS_len _
    · rfl
  haveI := l32 hhl
  have k9 := fun {H : Heap} (hr : Rd H 5 (.slice a l.length cap) (vcells l) l.length) => RVHash_ok (h := H) hr (by omega)
  generalize (if checkV l = 0 then sumS (encV l) else zb32) = hh at *
  refine stp ?_
  have f1011 : Fr (fun _ => False) h10 (h10.push (.cells (bcells hh) 0)) := Fr.refl.push
  have gX11 : HGet (h10.push (.cells (bcells hh) 0)) h10.n (.cells (bcells hh) 0) := HGet.new
  have n11 : (h10.push (.cells (bcells hh) 0)).n = h10.n + 1 := rfl
  generalize h10.push (.cells (bcells hh) 0) = h11 at *
  have f111 := f110.trans' f1011
  refine O.call' (k9 (hv0.keep (f1.trans' f111) fun _ _ => id)) (fun r h12 hr => ?_)
  obtain ⟨rfl, hf12⟩ := hr
  have n12 := hf12.n
  have f112 := f111.trans' hf12
  refine stp ?_
  have f1213 : Fr (fun _ => False) h12 (h12.push (.cells (bcells hh) 0)) := Fr.refl.push
  have gY13 : HGet (h12.push (.cells (bcells hh) 0)) h12.n (.cells (bcells hh) 0) := HGet.new
  have n13 : (h12.push (.cells (bcells hh) 0)).n = h12.n + 1 := rfl
  generalize h12.push (.cells (bcells hh) 0) = h13 at *
  have f1113 := hf12.trans' f1213
  have f113 := f111.trans' f1113
  have gX13 := f1113.keep gX11 (by omega) id
  have f513 : Fr (fun _ => False) h5 h13 := hf6.trans' (hf7.trans' (hf8.trans' (hf9.trans' (hf10.trans' (f1011.trans' f1113)))))
  have gT13 := f513.keep gT5 (by omega) id
  have gU13 := f513.keep gU5 (by omega) id
  haveI := gX13
  haveI := gY13
  haveI := gT13
  haveI := gU13
  refine stp ?_
  rw [same_self]
  refine stp ?_
  try simp only [eq_self, decide_true, beq_self_eq_true]
  refine stp ?_
  try simp only [eq_self, decide_true, beq_self_eq_true]
  refine stp ?_
  try simp only [eq_self, decide_true, beq_self_eq_true]
  refine stp ?_
  refine O.callT (SameBytes_ok (hb1.rd.keep (S := fun _ => False) ?_ fun _ _ => id) (hb2.rd.keep (S := fun _ => False) ?_ fun _ _ => id)) (fun r h14 hr => ?_)
  · exact hf9.trans' (hf10.trans' (f1011.trans' f1113))
  · exact hf10.trans' (f1011.trans' f1113)
  obtain ⟨rfl, rfl⟩ := hr
  try simp only [eq_self, decide_true, beq_self_eq_true]
  refine stp ?_
  try simp only [eq_self, decide_true, beq_self_eq_true]
  refine stp ?_
  try simp only [eq_self, decide_true, beq_self_eq_true]
  refine stp ?_
  rw [same_self]
  refine stp ?_
  try simp only [eq_self, decide_true, beq_self_eq_true]
  refine stp ?_
  refine O.callT (VCheck_ok (hr1.keep f113 fun _ _ => id)) (fun r h15 hr => ?_)
  obtain ⟨rfl, hf15⟩ := hr
  refine stp ?_
  refine O.callT (RVCheck_ok ((hv0.keep (f1.trans' f113) fun _ _ => id).keep hf15 fun _ _ => id)) (fun r h16 hr => ?_)
  obtain ⟨rfl, hf16⟩ := hr
  have f1416 := hf15.trans' hf16
  try simp only [eq_self, decide_true, beq_self_eq_true]
  refine stp ?_
  try simp only [eq_self, decide_true, beq_self_eq_true]
  refine stp ?_
  have hb16 : Own h16 1 (.slice ab1 (if checkV l = 0 then encV l else []).length cb1) (bcells (if checkV l = 0 then encV l else [])) (if checkV l = 0 then encV l else []).length := hb1.keep (S := fun _ => False) ((hf9.trans' (hf10.trans' (f1011.trans' f1113))).trans' f1416) fun _ _ => id
  have hel : (if checkV l = 0 then encV l else []).length < 1048576 := by
    split
    · rename_i hz
      have := encV_len hz; omega
    · simp
  refine O.call' (OverBytes_ok hb16 hel) (fun r h17 hr => ?_)
  have hf17 := hr
  refine stp ?_
  have f1717 : Fr (fun i => h7.n ≤ i) h1 h17 := Fr.trans (S := fun i => h7.n ≤ i) ((f113.trans' f1416).mono fun _ _ h => h.elim) hf17 fun i _ hi => hbn1 i hi
  refine O.callT (SameVals_same (hr1.keep f1717 fun i hi h => ?_) ((hv0.keep f1 fun _ _ => id).keep f1717 fun i hi h => ?_) (by omega)) (fun r h18 hr => ?_)
  · have := Rd.block_lt hr1 hi; omega
  · have := Rd.block_lt (hv0.keep f1 fun _ _ => id) hi; omega
  obtain ⟨rfl, rfl⟩ := hr
  refine stp ?_
  refine O.callT ztQ_known (fun r5 h19 hr => ?_)
  obtain ⟨rfl, rfl⟩ := hr
  refine stp ?_
  rfl
end Go.Proofs.Ytmfaepkmiceoeaa.A

namespace Go.Proofs.Ytmfaepkmiceoeaa.A
open Go Go.Vm
set_option maxRecDepth 10000
set_option linter.unusedVariables false
theorem fits_bytes {h : Heap} {m : Nat} {te : TypeId} {c : List Value} {len : Nat} (hu : Try.prog.underlying te = some (.int .u8)) (hs : Try.prog.cellsOf te = 1) (hl : c.length = len * Try.prog.cellsOf te) (hall : ∀ i, i < len → Fits Try.prog h (m + 1) te ((c.drop (i * Try.prog.cellsOf te)).take (Try.prog.cellsOf te))) : ∃ bs : List UInt8, c = bcells bs ∧ bs.length = len := by
  rw [hs, Nat.mul_one] at hl
  induction c generalizing len with
  | nil => exact ⟨[], rfl, by simpa using hl⟩
  | cons v c ih =>
    cases len with
    | zero => simp at hl
    | succ len =>
      have h0 := hall 0 (by omega)
      rw [hs] at h0
      unfold Fits at h0
      rw [hu] at h0
      simp only [Nat.zero_mul, List.drop_zero, List.take_succ_cons, List.take_zero] at h0
      obtain ⟨x, hx, hwf⟩ := h0
      injection hx with hx _
      obtain ⟨bs, rfl, hb⟩ := ih (len := len) (by simpa using hl) fun i hi => by
        have := hall (i + 1) (by omega)
        rw [hs] at this ⊢
        simpa using this
      have hr : 0 ≤ x ∧ x ≤ 255 := by
        simp [Lit.wf, IntKind.min, IntKind.max, IntKind.signed, IntKind.bits] at hwf
        omega
      refine ⟨UInt8.ofNat x.toNat :: bs, ?_, by simp [hb]⟩
      rw [hx]
      show Value.int .u8 x :: bcells bs = Value.int .u8 ((UInt8.ofNat x.toNat).toNat : Nat) :: bcells bs
      rw [u8nat (by omega)]
      congr 2
      omega
end Go.Proofs.Ytmfaepkmiceoeaa.A

namespace Go.Proofs.Ytmfaepkmiceoeaa.A
open Go Go.Vm
set_option maxRecDepth 100000
set_option linter.unusedVariables false
theorem vals_cells_fit {h : Heap} {m : Nat} {te tk tb ti : TypeId} (f0 : fieldAt Try.prog te 0 = some (0, tk)) (f1 : fieldAt Try.prog te 1 = some (4, ti)) (uk : Try.prog.underlying tk = some (.array 4 tb)) (ub : Try.prog.underlying tb = some (.int .u8)) (ui : Try.prog.underlying ti = some (.int .i64))
    (ce : Try.prog.cellsOf te = 5) (ck : Try.prog.cellsOf tk = 4) (cb : Try.prog.cellsOf tb = 1) (ci : Try.prog.cellsOf ti = 1) : ∀ (len : Nat) (c : List Value), c.length = len * 5 → (∀ i, i < len → Fits Try.prog h (m + 3) te ((c.drop (i * 5)).take 5)) →
    ∃ l : List Val, c = vcells l ∧ l.length = len ∧ ∀ v ∈ l, -9223372036854775808 ≤ v.p ∧ v.p ≤ 9223372036854775807
  | 0, c, hl, _ => ⟨[], by rw [vcells_nil]; simpa using hl, rfl, fun v hv => by cases hv⟩
  | len + 1, c, hl, hall => by
    have h0 := hall 0 (by omega)
    rw [Nat.zero_mul, List.drop_zero] at h0
    have hk := h0.field f0
    obtain ⟨p, g1, w1⟩ := (h0.field f1).int ui
    rw [ck] at hk
    rw [ci] at g1
    rw [List.drop_zero] at hk
    have h4 : (c.take 5).take 4 = c.take 4 := by rw [List.take_take]; rfl
    rw [h4] at hk
    have hb : ∃ bs : List UInt8, c.take 4 = bcells bs ∧ bs.length = 4 := by
      unfold Fits at hk
      rw [uk] at hk
      exact fits_bytes ub cb (by rw [hk.1, ck, cb]) hk.2
    obtain ⟨bs, hb1, hb2⟩ := hb
    obtain ⟨a0, a1, a2, a3, rfl⟩ := four hb2
    obtain ⟨l, e1, e2, e3⟩ := vals_cells_fit f0 f1 uk ub ui ce ck cb ci len (c.drop 5) (by rw [List.length_drop]; omega) fun i hi => by
      have := hall (i + 1) (by omega)
      rw [List.drop_drop]
      rw [show (i + 1) * 5 = 5 + i * 5 from by omega] at this
      exact this
    refine ⟨⟨a0, a1, a2, a3, p⟩ :: l, ?_, by simp [e2], fun v hv => ?_⟩
    · rw [vcells_cons, ← e1]
      have e5 : c = c.take 5 ++ c.drop 5 := (List.take_append_drop 5 c).symm
      have e6 : c.take 5 = c.take 4 ++ ((c.take 5).drop 4).take 1 := by
        have h1 : ((c.take 5).drop 4).take 1 = (c.take 5).drop 4 := List.take_of_length_le (by rw [List.length_drop, List.length_take]; omega)
        rw [h1, ← h4, List.take_append_drop]
      conv => lhs; rw [e5, e6, hb1, g1]
      rfl
    · rcases List.mem_cons.1 hv with rfl | hv
      · exact wf_i64 w1
      · exact e3 v hv
theorem fits_vlist {h : Heap} {m : Nat} {t te tk tb ti : TypeId} {v : Value} (ht : Try.prog.underlying t = some (.slice te)) (f0 : fieldAt Try.prog te 0 = some (0, tk)) (f1 : fieldAt Try.prog te 1 = some (4, ti)) (uk : Try.prog.underlying tk = some (.array 4 tb)) (ub : Try.prog.underlying tb = some (.int .u8)) (ui : Try.prog.underlying ti = some (.int .i64))
    (ce : Try.prog.cellsOf te = 5) (ck : Try.prog.cellsOf tk = 4) (cb : Try.prog.cellsOf tb = 1) (ci : Try.prog.cellsOf ti = 1) (hv : FitsV Try.prog h (m + 4) t v) : ∃ l : List Val, Rd h 5 v (vcells l) l.length ∧ ∀ v ∈ l, -9223372036854775808 ≤ v.p ∧ v.p ≤ 9223372036854775807 := by
  unfold FitsV at hv
  rw [ht] at hv
  unfold Fits at hv
  rw [ht] at hv
  rcases hv with hv | ⟨b, len, cap, c, hv, hb, hlc, hcap, hro, hl, hall⟩
  · injection hv with hv
    subst hv
    exact ⟨[], Rd.nil, fun v hv => by cases hv⟩
  · injection hv with hv
    subst hv
    rw [ce] at hl hall
    obtain ⟨l, rfl, e2, e3⟩ := vals_cells_fit f0 f1 uk ub ui ce ck cb ci len c hl hall
    refine ⟨l, ⟨_, _, by rw [e2], vcells_len l, fun hn => ⟨b, 0, none, rfl, hb, ?_⟩⟩, e3⟩
    rw [cellsAt_of (c := vcells l) (by rw [hro (by omega)]; rfl) (by rw [vcells_len]; omega), List.drop_zero, List.take_of_length_le (by rw [vcells_len]; omega)]
theorem key_fits {h : Heap} {v : Value} (hv : FitsV Try.prog h 8 42 v) : ∃ k0 k1 k2 k3 : UInt8, v = .agg ⟨[.int .u8 k0.toNat, .int .u8 k1.toNat, .int .u8 k2.toNat, .int .u8 k3.toNat]⟩ := by
  have u1 : Try.prog.underlying 42 = some (.array 4 5) := by kernel_rfl
  have u4 : Try.prog.underlying 5 = some (.int .u8) := by kernel_rfl
  have c4 : Try.prog.cellsOf 5 = 1 := by kernel_rfl
  have c5 : Try.prog.cellsOf 42 = 4 := by kernel_rfl
  unfold FitsV at hv
  rw [u1] at hv
  obtain ⟨cs, rfl, hc⟩ := hv
  unfold Fits at hc
  rw [u1] at hc
  obtain ⟨bs, rfl, hb⟩ := fits_bytes u4 c4 (by rw [hc.1, c5, c4]) hc.2
  obtain ⟨a0, a1, a2, a3, rfl⟩ := four hb
  exact ⟨a0, a1, a2, a3, rfl⟩
end Go.Proofs.Ytmfaepkmiceoeaa.A

namespace Go.Proofs.Ytmfaepkmiceoeaa.A
open Go Go.Vm
set_option maxRecDepth 100000
set_option linter.unusedVariables false
theorem ValsTells_run (h : Heap) (vs : List Value) (hf : FitsAll Try.prog h 8 [25, 42] vs) : Runs Try.prog T0 (.fn fn_zsQ) vs h (fun r _ => r = .bool true) (fun _ _ => False) := by
  obtain ⟨v1, _, rfl, h1, hf⟩ := hf.cons
  obtain ⟨v2, _, rfl, h2, hf⟩ := hf.cons
  obtain rfl := hf.nil
  obtain ⟨l, hl, _⟩ := fits_vlist (m := 4) (te := 54) (tk := 42) (tb := 5) (ti := 3) (by kernel_rfl) (by kernel_rfl) (by kernel_rfl) (by kernel_rfl) (by kernel_rfl) (by kernel_rfl) (by kernel_rfl) (by kernel_rfl) (by kernel_rfl) (by kernel_rfl) h1
  obtain ⟨k0, k1, k2, k3, rfl⟩ := key_fits h2
  exact ValsTells_true (w := ⟨k0, k1, k2, k3, 0⟩) hl
end Go.Proofs.Ytmfaepkmiceoeaa.A

namespace Go.Proofs.Ytmfaepkmiceoeaa.A
open Go Go.Vm
set_option maxRecDepth 100000
theorem ran_9 : allTrue (xcall Try.prog (tableOf Try.prog) 1000 60 (.fn 9) [] Heap.init) = true := by kernel_rfl
theorem has_9 : (tableOf Try.prog 9).isSome = true := by kernel_rfl
theorem known : KnownAll Try.prog prims := ⟨⟨Option.isSome_iff_exists.1 has_9, fun w => known_calls (Checked.mixed Try.checked) tableOf_ok ran_9 w⟩, trivial⟩
theorem T0_ok : TableOK Try.prog T0 := withKept_ok (withTrue_ok known) fun k hk => by simp at hk
end Go.Proofs.Ytmfaepkmiceoeaa.A
