/- Contracts of functions, over the machine. -/
import Derived.Test.YtninaabbojcdpaaGreatQMsgBack2
import Derived.Test.YtninaabbojcdpaaGreatVK
import Derived.Test.YtninaabbojcdpaaGreatVJ
noncomputable section
namespace Go.Proofs.YtninaabbojcdpaaGreat.A
open Go Go.Vm
set_option maxRecDepth 10000
set_option linter.unusedVariables false
structure Val where
  k0 : UInt8
  k1 : UInt8
  k2 : UInt8
  k3 : UInt8
  p : Int
deriving DecidableEq
abbrev Val.key (v : Val) : List UInt8 := [v.k0, v.k1, v.k2, v.k3]
abbrev Val.cells (v : Val) : List Value := [.int .u8 v.k0.toNat, .int .u8 v.k1.toNat, .int .u8 v.k2.toNat, .int .u8 v.k3.toNat, .int .i64 v.p]
abbrev zVal : Val := ⟨0, 0, 0, 0, 0⟩
def Val.of (l : List UInt8) (p : Int) : Val := ⟨l.getD 0 0, l.getD 1 0, l.getD 2 0, l.getD 3 0, p⟩
def vcells (l : List Val) : List Value := l.flatMap Val.cells
theorem vcells_cons (v : Val) (l : List Val) : vcells (v :: l) = v.cells ++ vcells l := rfl
theorem vcells_append (l m : List Val) : vcells (l ++ m) = vcells l ++ vcells m := by simp [vcells]
theorem vcells_at : ∀ {l : List Val} {k : Nat}, k < l.length → ((vcells l).drop (k * 5)).take 5 = (l.getD k zVal).cells
  | v :: l, 0, _ => by rw [vcells_cons]; rfl
  | v :: l, k + 1, h => by
    have := vcells_at (l := l) (k := k) (by simpa using h)
    rw [vcells_cons, show (k + 1) * 5 = v.cells.length + k * 5 from by simp; omega, ← List.drop_drop, List.drop_left]
    exact this
theorem val_cells {h : Heap} {b o n k : Nat} {l : List Val} (hc : cellsAt h b o (n * 5) = some (vcells l)) (hn : l.length = n) (hk : k < n) : Cells h b (o + k * 5) 5 (l.getD k zVal).cells := ⟨by
  rw [cellsAt_sub hc (by omega), vcells_at (by omega)]⟩
def stepsV (least : Int) : Option Val → List Val → Int
  | _, [] => 0
  | last, v :: l => if (match last with | none => false | some x => !keyLt x.key v.key) = true then 9 else if v.p < least ∨ 4611686018427387904 < v.p then 3 else stepsV least (some v) l
def checkV (l : List Val) : Int := if l.length = 0 then 6 else if 64 < l.length then 4 else stepsV 1 none l
def lastV (l : List Val) (k : Nat) : Option Val := if k = 0 then none else some (l.getD (k - 1) zVal)
theorem drop_getD {l : List Val} {k : Nat} (hk : k < l.length) : l.drop k = l.getD k zVal :: l.drop (k + 1) := by
  rw [List.drop_eq_getElem_cons hk]
  simp [List.getD, hk]
theorem stepsV_at {least : Int} {l : List Val} {k : Nat} (hk : k < l.length) : stepsV least (lastV l k) (l.drop k) =
    if (match lastV l k with | none => false | some x => !keyLt x.key (l.getD k zVal).key) = true then 9 else if (l.getD k zVal).p < least ∨ 4611686018427387904 < (l.getD k zVal).p then 3 else stepsV least (lastV l (k + 1)) (l.drop (k + 1)) := by
  rw [drop_getD hk]
  rfl
def atS (x : Val) (begun : Bool) (least most : Int) (v : Val) : Int := if (begun && !keyLt x.key v.key) = true then 9 else if v.p < least ∨ most < v.p then 3 else 0
theorem stepsV_atS {least : Int} {l : List Val} {k : Nat} {x : Val} (hk : k < l.length) (hx : 0 < k → lastV l k = some x) :
    stepsV least (lastV l k) (l.drop k) = if atS x (decide (0 < k)) least 4611686018427387904 (l.getD k zVal) = 0 then stepsV least (lastV l (k + 1)) (l.drop (k + 1)) else atS x (decide (0 < k)) least 4611686018427387904 (l.getD k zVal) := by
  rw [stepsV_at hk]
  by_cases h0 : 0 < k
  · rw [hx h0]
    unfold atS
    simp only [decide_eq_true h0, Bool.true_and]
    split
    · rfl
    · split
      · rfl
      · rfl
  · obtain rfl : k = 0 := by omega
    unfold atS
    simp only [lastV, if_true, Nat.lt_irrefl, decide_false, Bool.false_and, Bool.false_eq_true, if_false]
    split
    · rfl
    · rfl
def stepV (bs : List UInt8) : Nat → List Val × RSt → List Val × RSt
  | 0, y => y
  | k + 1, y =>
    let a := rd (partS 4 bs) zb4 (stepV bs k y).2
    let b := rd (numS bs) 0 a.2
    ((stepV bs k y).1 ++ [Val.of a.1 (b.1 : Nat)], b.2)
def decV (bs : List UInt8) : List Val × Int × Int :=
  let n := rd (numS bs) 0 ⟨0, 0, 0⟩
  if 64 < n.1 then ([], (4, 0)) else
    let y := stepV bs n.1 ([], n.2)
    let f := endS bs y.2
    let g := if f = (0, 0) then (checkV y.1, 0) else f
    if g = (0, 0) then (y.1, (0, 0)) else ([], g)
theorem stepV_len (bs : List UInt8) (y : List Val × RSt) : ∀ k, (stepV bs k y).1.length = y.1.length + k
  | 0 => rfl
  | k + 1 => by
    show ((stepV bs k y).1 ++ [_]).length = _
    rw [List.length_append, stepV_len bs y k]
    simp
    omega
theorem decV_len (bs : List UInt8) : (decV bs).1.length ≤ 64 := by
  unfold decV
  simp only
  split
  · simp
  · rename_i hn
    have key : ∀ g : Int × Int, (if g = (0, 0) then ((stepV bs (rd (numS bs) 0 ⟨0, 0, 0⟩).1 ([], (rd (numS bs) 0 ⟨0, 0, 0⟩).2)).1, ((0 : Int), (0 : Int))) else (([] : List Val), g)).1.length ≤ 64 := fun g => by
      split
      · rw [stepV_len]; simp; omega
      · simp
    exact key _
end Go.Proofs.YtninaabbojcdpaaGreat.A

namespace Go.Proofs.YtninaabbojcdpaaGreat.A
open Go Go.Vm
set_option maxRecDepth 10000
set_option linter.unusedVariables false
theorem Compare_ok {h : Heap} {v w : Value} {a b : List UInt8} {n m : Nat} (h1 : Rd h 1 v (bcells a) n) (h2 : Rd h 1 w (bcells b) m) :
    Runs Tryz.prog T0 (.fn fn_zmQ) [v, w] h (fun r h' => r = .int .i64 (cmpB a b) ∧ h' = h) (fun _ _ => False) := by
  have h1' := h1
  have h2' := h2
  obtain ⟨a0, c0, rfl, _, _⟩ := h1
  obtain ⟨a1, c1, rfl, _, _⟩ := h2
  refine zmQ_runs ?_
  refine stp ?_
  refine O.how (XOp.mkCompare h1' h2' (by kernel_rfl)) ?_
  refine stp ?_
  exact ⟨rfl, rfl⟩
abbrev lookC (x : Val) (begun : Bool) (least most : Int) : List Value := [.int .u8 x.k0.toNat, .int .u8 x.k1.toNat, .int .u8 x.k2.toNat, .int .u8 x.k3.toNat, .bool begun, .int .i64 least, .int .i64 most]
theorem at_ok {h : Heap} {q : Nat} {x v : Val} {begun : Bool} {least most : Int} (hg : h.get q = .cells (lookC x begun least most) 0) (hq : q < h.n) :
    Runs Tryz.prog T0 (.fn fn_zncQ) [.pointer (some ⟨q, 0, none⟩), .agg ⟨v.cells⟩] h (fun r h' => r = .int .i64 (atS x begun least most v) ∧ h'.get q = .cells (lookC v true least most) 0 ∧ Fr (fun i => i = q) h h') (fun _ _ => False) := by
  haveI : HGet h q _ := ⟨hg⟩
  haveI : BLt q h := ⟨hq⟩
  have fin : ∀ {c : List Value} {o : AObj}, c = lookC v true least most → (((h.push o).set q (.cells c 0)).get q = .cells (lookC v true least most) 0 ∧ Fr (fun i => i = q) h ((h.push o).set q (.cells c 0))) := fun hc => ⟨by rw [Heap.get_set, if_pos rfl, hc], Fr.refl.push.set fun _ => rfl⟩
  refine zncQ_runs ?_
  refine stp ?_
  cases begun with
  | true =>
    refine stp ?_
    refine D.callT (Compare_ok (a := x.key) (b := v.key) (Rd.mk (n := 4) (by simp; omega) ?_) (Rd.mk (n := 4) (by simp) ?_)) (fun _ _ _ => rfl) (fun r h1 hr => ?_)
    · rw [cellsAt_of (c := lookC x true least most) (by rw [Heap.get_push, if_neg (by omega), hg]; rfl) (by simp)]
      rfl
    · rw [cellsAt_of (c := v.cells) (by rw [Heap.get_push, if_pos rfl]; rfl) (by simp)]
      rfl
    obtain ⟨rfl, rfl⟩ := hr
    refine stp ?_
    have hk : keyLt x.key v.key = decide (cmpB x.key v.key < 0) := rfl
    unfold atS
    refine C.if (fun hge => ?_) (fun hlt => ?_)
    · refine stp ?_
      rw [if_pos (by rw [hk, decide_eq_false (by omega)]; rfl)]
      exact ⟨rfl, fin rfl⟩
    · refine stp ?_
      rw [if_neg (by rw [hk, decide_eq_true (by omega)]; simp)]
      refine D.dec (fun h1 => ?_) (fun h1 => ?_)
      · refine stp ?_
        rw [if_pos (.inl h1)]
        exact ⟨rfl, fin rfl⟩
      · refine stp ?_
        refine C.if (fun h2 => ?_) (fun h2 => ?_)
        · refine stp ?_
          rw [if_pos (.inr h2)]
          exact ⟨rfl, fin rfl⟩
        · refine stp ?_
          rw [if_neg (by omega)]
          exact ⟨rfl, fin rfl⟩
  | false =>
    refine stp ?_
    unfold atS
    rw [if_neg (by simp)]
    refine D.dec (fun h1 => ?_) (fun h1 => ?_)
    · refine stp ?_
      rw [if_pos (.inl h1)]
      exact ⟨rfl, fin rfl⟩
    · refine stp ?_
      refine C.if (fun h2 => ?_) (fun h2 => ?_)
      · refine stp ?_
        rw [if_pos (.inr h2)]
        exact ⟨rfl, fin rfl⟩
      · refine stp ?_
        rw [if_neg (by omega)]
        exact ⟨rfl, fin rfl⟩
end Go.Proofs.YtninaabbojcdpaaGreat.A

namespace Go.Proofs.YtninaabbojcdpaaGreat.A
open Go Go.Vm
set_option maxRecDepth 10000
set_option linter.unusedVariables false
theorem VCheck_ok {h : Heap} {v : Value} {l : List Val} (hv : Rd h 5 v (vcells l) l.length) :
    Runs Tryz.prog T0 (.fn fn_zkcQ) [v] h (fun r h' => r = .int .i64 (checkV l) ∧ Fr (fun _ => False) h h') (fun _ _ => False) := by
  obtain ⟨a, cap, rfl, hlen, hc⟩ := hv
  refine zkcQ_runs ?_
  refine stp ?_
  unfold checkV
  refine C.if (fun h0 => ?_) (fun h0 => ?_)
  · refine stp ?_
    rw [if_pos (by omega)]
    exact ⟨rfl, Fr.refl⟩
  rw [if_neg (by omega)]
  refine stp ?_
  refine C.if (fun h1 => ?_) (fun h1 => ?_)
  · refine stp ?_
    rw [if_pos (by omega)]
    exact ⟨rfl, Fr.refl⟩
  rw [if_neg (by omega)]
  obtain ⟨b, o, sp, rfl, hb, hcc⟩ := hc (by omega)
  refine stp ?_
  refine zkcQ_l0_rule (fun m v18 h' => ∃ k : Nat, k ≤ l.length ∧ m = l.length - k ∧ v18 = .int .i64 k ∧ (∃ x : Val, h'.get h.n = .cells (lookC x (decide (0 < k)) 1 4611686018427387904) 0 ∧ (0 < k → lastV l k = some x)) ∧ h.n < h'.n ∧ Fr (fun _ => False) h h' ∧ stepsV 1 none l = stepsV 1 (lastV l k) (l.drop k)) ?_ l.length ⟨0, by omega, rfl, rfl, ⟨zVal, ?_, by omega⟩, by simp, ?_, rfl⟩
  · rintro m v18 h' x2 x5 x6 x19 x20 x21 x22 x23 x24 x25 x26 x27 ⟨k, hk, rfl, rfl, ⟨x, hg, hx⟩, hn, hf, hst⟩
    refine stp ?_
    refine C.if (fun hlt => ?_) (fun hge => ?_)
    · have hlt : k < l.length := by omega
      have hcc' : cellsAt h' b o (l.length * 5) = some (vcells l) := by rw [cellsAt_keep hf hb id]; exact hcc
      haveI := val_cells hcc' rfl hlt
      refine stp ?_
      refine O.call' (at_ok (x := x) (v := l.getD k zVal) (begun := decide (0 < k)) (by rw [Heap.get_push, if_neg (by omega), hg]) (by simp; omega)) (fun r h2 hr => ?_)
      obtain ⟨rfl, hg2, hf2⟩ := hr
      have hn2 := hf2.n
      simp only [Heap.n_push] at hn2
      have hfh : Fr (fun _ => False) h h2 := Fr.trans (S := fun _ => False) hf (Fr.trans (S := fun i => i = h.n) Fr.refl.push hf2 fun i _ hi => hi) fun i hi ho => by omega
      refine stp ?_
      refine C.ifN (fun he => ?_) (fun he => ?_)
      · refine stp ?_
        rw [hst, stepsV_atS hlt hx, if_neg he]
        exact ⟨rfl, hfh⟩
      · refine stp ?_
        refine zkcQ_l0_again (l.length - (k + 1)) (by omega) ⟨k + 1, by omega, rfl, rfl, ⟨l.getD k zVal, by rw [hg2, decide_eq_true (show 0 < k + 1 by omega)], fun _ => rfl⟩, by omega, hfh, ?_⟩
        rw [hst, stepsV_atS hlt hx, if_pos he]
    · obtain rfl : k = l.length := by omega
      refine stp ?_
      rw [hst, List.drop_length]
      exact ⟨rfl, hf⟩
  · rw [Heap.get_push, if_pos rfl]
    rfl
  · exact Fr.refl.push
end Go.Proofs.YtninaabbojcdpaaGreat.A

namespace Go.Proofs.YtninaabbojcdpaaGreat.A
open Go Go.Vm
set_option maxRecDepth 10000
set_option linter.unusedVariables false
def setH (k : Nat) (x : Hd) (l : List UInt8) : Hd := match k with
  | 0 => { x with prev := l }
  | 1 => { x with vals := l }
  | 2 => { x with next := l }
  | _ => { x with app := l }
def stepD (bs : List UInt8) : Nat → Hd × RSt → Hd × RSt
  | 0, y => y
  | k + 1, y => (setH k (stepD bs k y).1 (rd (partS 32 bs) zb32 (stepD bs k y).2).1, (rd (partS 32 bs) zb32 (stepD bs k y).2).2)
theorem rd_part_len {bs : List UInt8} {st : RSt} : (rd (partS 32 bs) zb32 st).1.length = 32 := by
  unfold rd
  split
  · unfold partS
    split
    · rename_i a pl h
      split at h
      · cases h
      · cases h
        rw [List.length_take, List.length_drop]
        omega
    · rfl
  · rfl
theorem setH_ok {k : Nat} {x : Hd} {l : List UInt8} (hx : x.ok) (hl : l.length = 32) : (setH k x l).ok := by
  unfold setH
  split <;> exact ⟨by first | exact hl | exact hx.prev, by first | exact hl | exact hx.vals, by first | exact hl | exact hx.next, by first | exact hl | exact hx.app⟩
theorem stepD_ok {bs : List UInt8} {y : Hd × RSt} (hy : y.1.ok) : ∀ k, (stepD bs k y).1.ok
  | 0 => hy
  | k + 1 => setH_ok (stepD_ok hy k) rd_part_len
def headD (bs : List UInt8) : Hd × RSt :=
  let a := rd (bytesS bs 32) [] ⟨0, 0, 0⟩
  let b := rd (numS bs) 0 a.2
  let c := rd (numS bs) 0 b.2
  (⟨a.1, b.1, c.1, zb32, zb32, zb32, zb32⟩, c.2)
def zeroHd : Hd := ⟨[], 0, 0, zb32, zb32, zb32, zb32⟩
theorem zeroHd_ok : zeroHd.ok := ⟨rfl, rfl, rfl, rfl⟩
def decS (bs : List UInt8) : Hd × Int × Int :=
  let y := stepD bs 4 (headD bs)
  let f := endS bs y.2
  let g := if f = (0, 0) then (checkS y.1, 0) else f
  if g = (0, 0) then (y.1, (0, 0)) else (zeroHd, g)
theorem PRs.own_lt {h : Heap} {p : Nat} {sv : Value} {bs : List UInt8} {st : RSt} (hp : PRs h p sv bs st) {i : Nat} (hi : ownedBy sv i) : i < h.n := let ⟨_, _, h2⟩ := hp.ex; h2.own.lt hi
theorem same_fault {a b : Int} : same [.int .i64 a, .int .i64 b] [.int .i64 0, .int .i64 0] = decide ((a, b) = ((0, 0) : Int × Int)) := by
  by_cases h : (a, b) = ((0, 0) : Int × Int)
  · rw [decide_eq_true h]
    cases h
    exact same_self _
  · rw [decide_eq_false h]
    exact same_ne.2 fun h2 => h (by cases h2; rfl)
theorem Decode_ok {h : Heap} {v : Value} {bs : List UInt8} (hv : Rd h 1 v (bcells bs) bs.length) (hs : bs.length < 1048576) : Runs Tryz.prog T0 (.fn fn_ztQ) [v] h
    (fun r h' => r = .tuple ⟨[.agg ⟨(decS bs).1.cells⟩, .agg ⟨[.int .i64 (decS bs).2.1, .int .i64 (decS bs).2.2]⟩]⟩ ∧ Fr (fun _ => False) h h') (fun _ _ => False) := by
  refine ztQ_runs ?_
  refine stpP ?_
  have hf0 : Fr (fun _ => False) h ((h.push (.cells (.string ⟨⟨[]⟩⟩ :: .int .i64 0 :: .int .i64 0 :: (z32 ++ (z32 ++ (z32 ++ z32)))) 0)).push (.cells [.int .i64 0, .int .i64 0] 0)) := Fr.refl.push.push
  refine O.call' (NewReader_ok (hv.keep hf0 fun _ _ => id) hs) (fun r h1 hr => ?_)
  obtain ⟨p, sv, rfl, hp1, hsv, hr1, hf1⟩ := hr
  simp only [Heap.n_push] at hp1 hsv
  haveI : HGet h1 h.n _ := hf1.keep (b := h.n) (HGet.push (k := BLt.new) (g := HGet.new)) (by simp; omega) id
  haveI : HGet h1 (h.push (.cells (.string ⟨⟨[]⟩⟩ :: .int .i64 0 :: .int .i64 0 :: (z32 ++ (z32 ++ (z32 ++ z32)))) 0)).n _ := hf1.keep (b := (h.push (.cells (.string ⟨⟨[]⟩⟩ :: .int .i64 0 :: .int .i64 0 :: (z32 ++ (z32 ++ (z32 ++ z32)))) 0)).n) HGet.new (by simp) id
  have hf01 := hf0.trans' hf1
  refine stpP ?_
  refine O.call' (Text_run (most := 32) hr1 (by omega)) (fun r h2 hr => ?_)
  obtain ⟨hf2, rfl, hr2⟩ := hr
  refine stpP ?_
  refine O.call' (Num_run hr2) (fun r h3 hr => ?_)
  obtain ⟨hf3, rfl, hr3⟩ := hr
  refine stpP ?_
  refine O.call' (Num_run hr3) (fun r h4 hr => ?_)
  obtain ⟨hf4, rfl, hr4⟩ := hr
  refine stpP ?_
  have hf24 : Fr (fun i => i = p) h1 h4 := hf2.trans' (hf3.trans' hf4)
  have hn14 := hf24.n
  have hp1' := hr1.lt
  have hown : ∀ i, ownedBy sv i → i < h4.n := fun i hi => Nat.lt_of_lt_of_le (hr1.own_lt hi) hn14
  generalize hy : ((⟨(rd (bytesS bs 32) [] ⟨0, 0, 0⟩).1, (rd (numS bs) 0 (rd (bytesS bs 32) [] ⟨0, 0, 0⟩).2).1, (rd (numS bs) 0 (rd (numS bs) 0 (rd (bytesS bs 32) [] ⟨0, 0, 0⟩).2).2).1, zb32, zb32, zb32, zb32⟩, (rd (numS bs) 0 (rd (numS bs) 0 (rd (bytesS bs 32) [] ⟨0, 0, 0⟩).2).2).2) : Hd × RSt) = y
  have hyD : headD bs = y := by rw [← hy]; rfl
  have hyok : y.1.ok := by rw [← hy]; exact ⟨rfl, rfl, rfl, rfl⟩
  have hg : (h4.push (.cells y.1.cells 0)).get h4.n = .cells y.1.cells 0 := by rw [Heap.get_push, if_pos rfl]
  have hr4 : PRs h4 p sv bs y.2 := by rw [← hy]; exact hr4
  have hA : (Value.string ⟨⟨(rd (bytesS bs 32) [] ⟨0, 0, 0⟩).1⟩⟩ :: Value.int .i64 ((rd (numS bs) 0 (rd (bytesS bs 32) [] ⟨0, 0, 0⟩).2).1 : Nat) :: Value.int .i64 ((rd (numS bs) 0 (rd (numS bs) 0 (rd (bytesS bs 32) [] ⟨0, 0, 0⟩).2).2).1 : Nat) :: (z32 ++ (z32 ++ (z32 ++ z32)))) = y.1.cells := by rw [← hy]
  rw [hA]
  refine O.call' (hashes_ok (x := y.1) hg (by simp)) (fun r h5 hr => ?_)
  obtain ⟨rfl, hf5⟩ := hr
  have hn5 := hf5.n
  simp only [Heap.n_push] at hn5
  have hf45 : Fr (fun _ => False) h4 h5 := Fr.trans (S := fun _ => False) Fr.refl.push hf5 fun _ _ h => h
  have hf15 : Fr (fun i => i = p ∨ i = h4.n) h1 h5 := Fr.trans (S := fun i => i = p ∨ i = h4.n) (hf24.mono fun _ _ h => .inl h) hf45 fun _ _ h => h.elim
  have hg5 : h5.get h4.n = .cells y.1.cells 0 := by rw [hf5.get _ (by simp) id, hg]
  refine stpP ?_
  refine ztQ_l0_rule (fun m v19 h' => ∃ k : Nat, k ≤ 4 ∧ m = 4 - k ∧ v19 = .int .i64 k ∧ h'.get h4.n = .cells (stepD bs k y).1.cells 0 ∧ PRs h' p sv bs (stepD bs k y).2 ∧ Fr (fun i => i = p ∨ i = h4.n) h5 h') ?_ 4 ⟨0, by omega, rfl, rfl, hg5, hr4.none hf45, Fr.refl⟩
  rintro m v19 h6 x7 x20 x21 x22 x23 x24 x25 x26 ⟨k, hk, rfl, rfl, hg6, hr6, hf6⟩
  have hok6 := stepD_ok (bs := bs) hyok k
  have hn6 := hf6.n
  have hstep : stepD bs (k + 1) y = (setH k (stepD bs k y).1 (rd (partS 32 bs) zb32 (stepD bs k y).2).1, (rd (partS 32 bs) zb32 (stepD bs k y).2).2) := rfl
  generalize hX : stepD bs k y = z at *
  obtain ⟨X, st⟩ := z
  simp only at hg6 hr6 hok6 hstep
  haveI := l32 hok6.prev
  haveI := l32 hok6.vals
  haveI := l32 hok6.next
  haveI := l32 hok6.app
  have body : ∀ {h7 : Heap} {l : List UInt8} {c : List Value}, Fr (fun i => i = p) h6 h7 → PRs h7 p sv bs (stepD bs (k + 1) y).2 → c = (stepD bs (k + 1) y).1.cells →
      (h7.set h4.n (.cells c 0)).get h4.n = .cells (stepD bs (k + 1) y).1.cells 0 ∧ PRs (h7.set h4.n (.cells c 0)) p sv bs (stepD bs (k + 1) y).2 ∧ Fr (fun i => i = p ∨ i = h4.n) h5 (h7.set h4.n (.cells c 0)) := fun {h7 l c} hf7 hr7 hc => by
    refine ⟨by rw [Heap.get_set, if_pos rfl, hc], hr7.keep (S := fun i => i = h4.n) (Fr.refl.set fun _ => rfl) (by omega) fun i hi h => ?_, Fr.set (hf6.trans' (hf7.mono fun _ _ h => .inl h)) fun _ => .inr rfl⟩
    have := hown i hi
    omega
  rcases (show k = 0 ∨ k = 1 ∨ k = 2 ∨ k = 3 ∨ k = 4 by omega) with rfl | rfl | rfl | rfl | rfl
  · refine stpP ?_
    refine O.how (XOp.mkIndex1 (m := 0) 0 rfl (by omega) rfl) ?_
    refine stpP ?_
    refine O.call' (Hash_run hr6) (fun r h7 hr => ?_)
    obtain ⟨hf7, ⟨rfl, hl7⟩, hr7⟩ := hr
    haveI := l32 hl7
    haveI : HGet h7 h4.n _ := hf7.keep (b := h4.n) ⟨hg6⟩ (by omega) (by omega)
    refine stpP ?_
    obtain ⟨b1, b2, b3⟩ := body (l := []) hf7 (by rw [hstep]; exact hr7) (by rw [hstep])
    exact ztQ_l0_again 3 (by omega) ⟨1, by omega, rfl, rfl, b1, b2, b3⟩
  · refine stpP ?_
    refine O.how (XOp.mkIndex1 (m := 1) 1 rfl (by omega) rfl) ?_
    refine stpP ?_
    refine O.call' (Hash_run hr6) (fun r h7 hr => ?_)
    obtain ⟨hf7, ⟨rfl, hl7⟩, hr7⟩ := hr
    haveI := l32 hl7
    haveI : HGet h7 h4.n _ := hf7.keep (b := h4.n) ⟨hg6⟩ (by omega) (by omega)
    refine stpP ?_
    obtain ⟨b1, b2, b3⟩ := body (l := []) hf7 (by rw [hstep]; exact hr7) (by rw [hstep])
    exact ztQ_l0_again 2 (by omega) ⟨2, by omega, rfl, rfl, b1, b2, b3⟩
  · refine stpP ?_
    refine O.how (XOp.mkIndex1 (m := 2) 2 rfl (by omega) rfl) ?_
    refine stpP ?_
    refine O.call' (Hash_run hr6) (fun r h7 hr => ?_)
    obtain ⟨hf7, ⟨rfl, hl7⟩, hr7⟩ := hr
    haveI := l32 hl7
    haveI : HGet h7 h4.n _ := hf7.keep (b := h4.n) ⟨hg6⟩ (by omega) (by omega)
    refine stpP ?_
    obtain ⟨b1, b2, b3⟩ := body (l := []) hf7 (by rw [hstep]; exact hr7) (by rw [hstep])
    exact ztQ_l0_again 1 (by omega) ⟨3, by omega, rfl, rfl, b1, b2, b3⟩
  · refine stpP ?_
    refine O.how (XOp.mkIndex1 (m := 3) 3 rfl (by omega) rfl) ?_
    refine stpP ?_
    refine O.call' (Hash_run hr6) (fun r h7 hr => ?_)
    obtain ⟨hf7, ⟨rfl, hl7⟩, hr7⟩ := hr
    haveI := l32 hl7
    haveI : HGet h7 h4.n _ := hf7.keep (b := h4.n) ⟨hg6⟩ (by omega) (by omega)
    refine stpP ?_
    obtain ⟨b1, b2, b3⟩ := body (l := []) hf7 (by rw [hstep]; exact hr7) (by rw [hstep])
    exact ztQ_l0_again 0 (by omega) ⟨4, by omega, rfl, rfl, b1, b2, b3⟩
  · refine stpP ?_
    refine O.call' (End_run hr6) (fun r h7 hr => ?_)
    obtain ⟨rfl, hf7⟩ := hr
    have hn7 := hf7.n
    haveI : BLt h4.n h7 := ⟨by omega⟩
    have hn11 := hf1.n
    simp only [Heap.n_push] at hn11
    haveI : BLt h.n h7 := ⟨by omega⟩
    haveI : BLt (h.push (.cells (.string ⟨⟨[]⟩⟩ :: .int .i64 0 :: .int .i64 0 :: (z32 ++ (z32 ++ (z32 ++ z32)))) 0)).n h7 := ⟨by simp only [Heap.n_push]; omega⟩
    have hf17 : Fr (fun i => i = p ∨ i = h4.n) h1 h7 := hf15.trans' (hf6.trans' (hf7.mono fun _ _ h => h.elim))
    have hn01 := hf01.n
    have hfh7 : Fr (fun _ => False) h h7 := Fr.trans (S := fun _ => False) hf01 hf17 fun i hi h => by omega
    haveI : HGet h7 h4.n (.cells X.cells 0) := hf7.keep (b := h4.n) ⟨hg6⟩ (by omega) id
    haveI : HGet h7 h.n _ := hf17.keep (b := h.n) inferInstance (by omega) (by omega)
    haveI : HGet h7 (h.push (.cells (.string ⟨⟨[]⟩⟩ :: .int .i64 0 :: .int .i64 0 :: (z32 ++ (z32 ++ (z32 ++ z32)))) 0)).n _ := hf17.keep (b := (h.push (.cells (.string ⟨⟨[]⟩⟩ :: .int .i64 0 :: .int .i64 0 :: (z32 ++ (z32 ++ (z32 ++ z32)))) 0)).n) inferInstance (by simp; have := hf1.n; simp at this; omega) (by simp; omega)
    refine stpP ?_
    have hdec : decS bs = (let f := endS bs st; let g := if f = (0, 0) then (checkS X, 0) else f; if g = (0, 0) then (X, (0, 0)) else (zeroHd, g)) := by
      unfold decS
      rw [hyD, hX]
    rw [hdec]
    rw [same_fault]
    generalize hF : endS bs st = F at *
    obtain ⟨e, a⟩ := F
    refine C.if (fun hz => ?_) (fun hz => ?_)
    · obtain ⟨he, ha⟩ := Prod.mk.inj hz
      subst he ha
      refine stpP ?_
      refine O.call' (Check_ok hok6) (fun r h8 hr => ?_)
      obtain ⟨rfl, hf8⟩ := hr
      haveI : HGet h8 h7.n _ := hf8.keep (b := h7.n) HGet.new (by simp) id
      haveI : HGet h8 h4.n _ := hf8.keep (b := h4.n) (HGet.push (o := .cells X.cells 0)) (by simp; omega) id
      haveI : HGet h8 h.n _ := hf8.keep (b := h.n) inferInstance (by simp; omega) id
      haveI : HGet h8 (h.push (.cells (.string ⟨⟨[]⟩⟩ :: .int .i64 0 :: .int .i64 0 :: (z32 ++ (z32 ++ (z32 ++ z32)))) 0)).n _ := hf8.keep (b := (h.push (.cells (.string ⟨⟨[]⟩⟩ :: .int .i64 0 :: .int .i64 0 :: (z32 ++ (z32 ++ (z32 ++ z32)))) 0)).n) inferInstance (by simp; omega) id
      haveI : BNe h4.n h7.n := ⟨by omega⟩
      haveI : BNe h.n h7.n := ⟨by omega⟩
      haveI : BNe (h.push (.cells (.string ⟨⟨[]⟩⟩ :: .int .i64 0 :: .int .i64 0 :: (z32 ++ (z32 ++ (z32 ++ z32)))) 0)).n h7.n := ⟨by simp; omega⟩
      haveI : BNe (h.push (.cells (.string ⟨⟨[]⟩⟩ :: .int .i64 0 :: .int .i64 0 :: (z32 ++ (z32 ++ (z32 ++ z32)))) 0)).n h.n := ⟨by simp⟩
      haveI : BNe h7.n h.n := ⟨by omega⟩
      haveI : BNe h.n (h.push (.cells (.string ⟨⟨[]⟩⟩ :: .int .i64 0 :: .int .i64 0 :: (z32 ++ (z32 ++ (z32 ++ z32)))) 0)).n := ⟨by simp⟩
      haveI : BNe h4.n h.n := ⟨by omega⟩
      have hfh8 : Fr (fun _ => False) h h8 := hfh7.trans' (Fr.trans (S := fun _ => False) Fr.refl.push hf8 fun _ _ h => h)
      refine stpP ?_
      rw [same_fault]
      refine C.ifN (fun hc => ?_) (fun hc => ?_)
      · refine stpP ?_
        simp only [if_true]
        rw [if_neg hc]
        exact ⟨rfl, Fr.set (Fr.set (Fr.set hfh8 fun hlt => by omega) fun hlt => by omega) fun hlt => by simp at hlt; omega⟩
      · refine stpP ?_
        simp only [if_true]
        rw [if_pos hc]
        have h0 : checkS X = 0 := by injection hc
        rw [h0]
        exact ⟨rfl, Fr.set (Fr.set (Fr.set hfh8 fun hlt => by omega) fun hlt => by omega) fun hlt => by simp at hlt; omega⟩
    · refine stpP ?_
      rw [same_fault]
      refine C.ifN (fun hc => ?_) (fun hc => absurd hc hz)
      refine stpP ?_
      simp only [if_neg hz]
      exact ⟨rfl, Fr.set (Fr.set hfh7.push fun hlt => by omega) fun hlt => by simp at hlt; omega⟩
end Go.Proofs.YtninaabbojcdpaaGreat.A

namespace Go.Proofs.YtninaabbojcdpaaGreat.A
open Go Go.Vm
set_option maxRecDepth 10000
set_option linter.unusedVariables false
theorem decS_ok (bs : List UInt8) : (decS bs).1.ok := by
  have key : ∀ g : Int × Int, (if g = (0, 0) then ((stepD bs 4 (headD bs)).1, ((0 : Int), (0 : Int))) else (zeroHd, g)).1.ok := fun g => by
    split
    · exact stepD_ok (y := headD bs) ⟨rfl, rfl, rfl, rfl⟩ 4
    · exact zeroHd_ok
  exact key _
end Go.Proofs.YtninaabbojcdpaaGreat.A

namespace Go.Proofs.YtninaabbojcdpaaGreat.A
open Go Go.Vm
set_option maxRecDepth 10000
set_option linter.unusedVariables false
theorem one_val {h : Heap} {c : List Value} {es : Nat} (hc : c.length = 5) : newCells (h.push (.cells c es)) 5 [.int .u8 0, .int .u8 0, .int .u8 0, .int .u8 0, .int .i64 0] false (.slice (some ⟨h.n, 0, none⟩) 1 1) = some (1, c) :=
  (Rd.mk (size := 5) (n := 1) (cap := 1) (sp := none) (o := 0) (b := h.n) (c := c) (by simp) (by rw [cellsAt_of (c := c) (by rw [Heap.get_push, if_pos rfl]; rfl) (by omega), List.drop_zero, List.take_of_length_le (by omega)])).new _
set_option maxHeartbeats 2000000 in
theorem VDecode_ok {h : Heap} {v : Value} {bs : List UInt8} (hv : Rd h 1 v (bcells bs) bs.length) (hs : bs.length < 1048576) : Runs Tryz.prog T0 (.fn fn_zlcQ) [v] h
    (fun r h' => ∃ sl, r = .tuple ⟨[sl, .agg ⟨[.int .i64 (decV bs).2.1, .int .i64 (decV bs).2.2]⟩]⟩ ∧ Own h' 5 sl (vcells (decV bs).1) (decV bs).1.length ∧ (∀ i, ownedBy sl i → h.n ≤ i) ∧ Fr (fun _ => False) h h') (fun _ _ => False) := by
  refine zlcQ_runs ?_
  refine stpP ?_
  have hf0 : Fr (fun _ => False) h (h.push (.cells [.int .i64 0, .int .i64 0] 0)) := Fr.refl.push
  refine O.call' (NewReader_ok (hv.keep hf0 fun _ _ => id) hs) (fun r h1 hr => ?_)
  obtain ⟨p, sv, rfl, hp1, hsv, hr1, hf1⟩ := hr
  simp only [Heap.n_push] at hp1 hsv
  refine stpP ?_
  refine O.call' (Num_run hr1) (fun r h2 hr => ?_)
  obtain ⟨hf2, rfl, hr2⟩ := hr
  have hf01 : Fr (fun _ => False) h h1 := hf0.trans' hf1
  have hn01 := hf1.n
  simp only [Heap.n_push] at hn01
  have hn12 := hf2.n
  have hA1 : HGet h1 h.n (.cells [.int .i64 0, .int .i64 0] 0) := hf1.keep (b := h.n) HGet.new (by simp) id
  have hA2 : HGet h2 h.n (.cells [.int .i64 0, .int .i64 0] 0) := hf2.keep hA1 (by omega) (by omega)
  have hfh2 : Fr (fun _ => False) h h2 := Fr.trans (S := fun _ => False) hf01 hf2 fun i hi ho => by omega
  have hdec : decV bs = (if 64 < (rd (numS bs) 0 ⟨0, 0, 0⟩).1 then ([], (4, 0)) else
    let y := stepV bs (rd (numS bs) 0 ⟨0, 0, 0⟩).1 ([], (rd (numS bs) 0 ⟨0, 0, 0⟩).2)
    let f := endS bs y.2
    let g := if f = (0, 0) then (checkV y.1, 0) else f
    if g = (0, 0) then (y.1, (0, 0)) else ([], g)) := rfl
  rw [hdec]
  clear hdec
  generalize rd (numS bs) 0 ⟨0, 0, 0⟩ = n at *
  obtain ⟨n, st0⟩ := n
  simp only at hr2 ⊢
  haveI : BLt h.n h2 := ⟨by omega⟩
  haveI : HGet h2 h.n _ := hA2
  refine stpP ?_
  refine C.if (fun hbig => ?_) (fun hsm => ?_)
  · refine stpP ?_
    rw [if_pos (by omega)]
    exact ⟨_, rfl, .none, fun i hi => hi.elim, Fr.set hfh2 fun hlt => by omega⟩
  rw [if_neg (by omega)]
  refine stpP ?_
  have hp2 := hr2.lt
  have hsv2 : ∀ i, ownedBy sv i → i < h2.n := fun i hi => hr2.own_lt hi
  refine zlcQ_l0_rule (fun m v2 v15 h' => ∃ k : Nat, k ≤ n ∧ m = n - k ∧ v15 = .int .i64 k ∧ Own h' 5 v2 (vcells (stepV bs k ([], st0)).1) k ∧ (∀ i, ownedBy v2 i → h2.n ≤ i) ∧ PRs h' p sv bs (stepV bs k ([], st0)).2 ∧ Fr (fun i => i = p) h2 h') ?_ n ⟨0, by omega, rfl, rfl, .none, fun i hi => hi.elim, hr2, Fr.refl⟩
  rintro m v2 v15 h3 x6 x16 x17 x18 x19 x20 x21 x22 x23 x24 x25 x26 x27 ⟨k, hk, rfl, rfl, ho, hnew, hr3, hf3⟩
  have hstep : stepV bs (k + 1) ([], st0) = ((stepV bs k ([], st0)).1 ++ [Val.of (rd (partS 4 bs) zb4 (stepV bs k ([], st0)).2).1 ((rd (numS bs) 0 (rd (partS 4 bs) zb4 (stepV bs k ([], st0)).2).2).1 : Nat)], (rd (numS bs) 0 (rd (partS 4 bs) zb4 (stepV bs k ([], st0)).2).2).2) := rfl
  have hlenk : (stepV bs k ([], st0)).1.length = k := by rw [stepV_len]; simp
  have hn23 := hf3.n
  refine stpP ?_
  refine C.if (fun hlt => ?_) (fun hge => ?_)
  · generalize stepV bs k ([], st0) = z at *
    obtain ⟨L, st⟩ := z
    simp only at ho hr3 hstep hlenk
    refine stpP ?_
    have k1 := Key_run hr3
    generalize rd (partS 4 bs) zb4 st = a at *
    obtain ⟨ak, st4⟩ := a
    refine O.call' k1 (fun r h4 hq => ?_)
    obtain ⟨hf4, ⟨rfl, hl⟩, hr4⟩ := hq
    simp only at hl hr4 hstep
    obtain ⟨a1, a2, a3, a4, rfl⟩ := four hl
    rw [bcells4]
    have hn34 := hf4.n
    refine stpP ?_
    have k2 := Num_run (hr4.none (Fr.refl.push (o := .cells [.int .u8 a1.toNat, .int .u8 a2.toNat, .int .u8 a3.toNat, .int .u8 a4.toNat, .int .i64 0] 0)))
    generalize rd (numS bs) 0 st4 = b at *
    obtain ⟨b, st5⟩ := b
    refine O.call' k2 (fun r h5 hq => ?_)
    obtain ⟨hf5, rfl, hr5⟩ := hq
    simp only at hr5 hstep
    have hn45 := hf5.n
    simp only [Heap.n_push] at hn45
    have hp4 := hr4.lt
    haveI : HGet h5 h4.n _ := hf5.keep (b := h4.n) HGet.new (by simp) (by omega)
    refine stpP ?_
    have hol := fun {i : Nat} (hi : ownedBy v2 i) => ho.lt hi
    have ho5 : Own h5 5 v2 (vcells L) k := ((ho.keep hf4 fun i hi h => by have := hnew i hi; omega).keep (S := fun _ => False) (Fr.refl.push) fun _ _ => id).keep hf5 fun i hi h => by have := hnew i hi; omega
    refine O.append ((ho5.keep (S := fun i => i = h4.n) (Fr.refl.set fun _ => rfl) fun i hi h => by have := hol hi; omega).keep (S := fun _ => False) Fr.refl.push fun _ _ => id) (one_val rfl) rfl rfl (by omega) (by omega) (by omega) (fun v6 h6 ho6 hf6 hn6 => ?_)
    refine stpP ?_
    have hf56 : Fr (fun i => i = h4.n ∨ ownedBy v2 i) h5 h6 := Fr.trans (S := fun i => i = h4.n ∨ ownedBy v2 i) (Fr.refl.set fun _ => .inl rfl).push hf6 fun i _ hi => .inr hi
    refine zlcQ_l0_again (n - (k + 1)) (by omega) ⟨k + 1, by omega, rfl, rfl, ?_, fun i hi => ?_, ?_, ?_⟩
    · rw [hstep]
      simp only
      rw [vcells_append]
      exact ho6
    · rcases hn6 i hi with h7 | h7
      · exact hnew i h7
      · simp at h7; omega
    · rw [hstep]
      refine hr5.keep hf56 (fun h => ?_) fun i hi h => ?_
      · rcases h with h | h
        · omega
        · have := hnew p h; omega
      · have := hsv2 i hi
        rcases h with h | h
        · omega
        · have := hnew i h; omega
    · have hf35 : Fr (fun i => i = p) h3 h5 := Fr.trans (S := fun i => i = p) hf4 (Fr.trans (S := fun i => i = p) Fr.refl.push hf5 fun _ _ h => h) fun _ _ h => h
      refine Fr.trans (S := fun i => i = p) hf3 (Fr.trans (S := fun i => i = p ∨ ownedBy v2 i) (hf35.mono fun _ _ h => .inl h) hf56 fun i hi h => ?_) fun i hi h => ?_
      · rcases h with h | h
        · omega
        · exact .inr h
      · rcases h with h | h
        · exact h
        · have := hnew i h; omega
  · obtain rfl : k = n := by omega
    have hA3 : HGet h3 h.n (.cells [.int .i64 0, .int .i64 0] 0) := hf3.keep hA2 (by omega) (by omega)
    haveI : HGet h3 h.n _ := hA3
    have hfh3 : Fr (fun _ => False) h h3 := Fr.trans (S := fun _ => False) hfh2 hf3 fun i hi ho => by omega
    generalize stepV bs k ([], st0) = z at *
    obtain ⟨L, st⟩ := z
    simp only at ho hr3 hlenk ⊢
    refine stpP ?_
    have k3 := End_run hr3
    generalize endS bs st = F at *
    obtain ⟨e, a⟩ := F
    refine O.call' k3 (fun r h4 hr => ?_)
    obtain ⟨rfl, hf4⟩ := hr
    have hn34 := hf4.n
    haveI : HGet h4 h.n _ := hf4.keep hA3 (by omega) id
    haveI : BLt h.n h4 := ⟨by omega⟩
    have hfh4 : Fr (fun _ => False) h h4 := hfh3.trans' hf4
    have ho4 : Own h4 5 (v2) (vcells L) k := ho.keep hf4 fun _ _ => id
    have hset : ∀ {o : AObj}, Own (h4.set h.n o) 5 v2 (vcells L) k := fun {o} => ho4.keep (S := fun i => i = h.n) (Fr.refl.set fun _ => rfl) fun i hi h => by have := hnew i hi; omega
    refine stpP ?_
    rw [same_fault]
    refine C.if (fun hz => ?_) (fun hz => ?_)
    · obtain ⟨he, ha⟩ := Prod.mk.inj hz
      subst he ha
      refine stpP ?_
      refine O.call' (VCheck_ok (l := L) (by rw [hlenk]; exact hset.rd)) (fun r h5 hr => ?_)
      obtain ⟨rfl, hf5⟩ := hr
      have hn45 := hf5.n
      simp only [Heap.n_set] at hn45
      haveI : HGet h5 h.n _ := hf5.keep (b := h.n) .same (by simp; omega) id
      haveI : BLt h.n h5 := ⟨by omega⟩
      have hfh5 : Fr (fun _ => False) h h5 := Fr.trans (S := fun _ => False) (Fr.set hfh4 fun hlt => by omega) hf5 fun _ _ h => h
      have ho5 : Own h5 5 v2 (vcells L) k := hset.keep hf5 fun _ _ => id
      refine stpP ?_
      rw [same_fault]
      refine C.ifN (fun hc => ?_) (fun hc => ?_)
      · refine stpP ?_
        simp only [if_true]
        rw [if_neg hc]
        exact ⟨_, rfl, .none, fun i hi => hi.elim, Fr.set hfh5 fun hlt => by omega⟩
      · have h0 : checkV L = 0 := by injection hc
        rw [h0]
        refine stpP ?_
        refine D.oneS ?_
        refine stpP ?_
        simp only [if_true]
        refine ⟨_, rfl, ?_, fun i hi => ?_, Fr.set hfh5 fun hlt => by omega⟩
        · rw [hlenk]
          exact ho5.keep (S := fun i => i = h.n) (Fr.refl.set fun _ => rfl) fun i hi h => by have := hnew i hi; omega
        · have := hnew i hi
          omega
    · refine stpP ?_
      rw [same_fault]
      refine C.ifN (fun hc => ?_) (fun hc => absurd hc hz)
      refine stpP ?_
      simp only [if_neg hz]
      exact ⟨_, rfl, .none, fun i hi => hi.elim, Fr.set hfh4 fun hlt => by omega⟩
end Go.Proofs.YtninaabbojcdpaaGreat.A

namespace Go.Proofs.YtninaabbojcdpaaGreat.A
open Go Go.Vm
set_option maxRecDepth 10000
set_option linter.unusedVariables false
structure Lent (h : Heap) (lo : Nat) (v : Value) (l : List UInt8) : Prop where
  ex : ∃ q k cap j, v = .slice (some ⟨q, 0, some k⟩) l.length cap ∧ h.get q = .cells (bcells l ++ (bcells lentTail ++ j)) 1 ∧ l.length + 4 ≤ cap ∧ (l.length + (4 + j.length)) = cap ∧ lo ≤ q ∧ q < h.n
theorem Lent.rd {h : Heap} {lo : Nat} {v : Value} {l : List UInt8} (hv : Lent h lo v l) : Rd h 1 v (bcells l) l.length := by
  obtain ⟨q, k, cap, j, rfl, hq, hc, _, _, hlt⟩ := hv.ex
  refine Rd.mk hlt ?_
  have hbl : (bcells l).length = l.length := by simp [bcells]
  rw [Nat.mul_one, cellsAt_of (c := bcells l ++ (bcells lentTail ++ j)) (by rw [hq]; rfl) (by simp only [List.length_append, hbl]; omega), List.drop_zero, ← hbl, List.take_left]
theorem Lent.keep {S : Nat → Prop} {h h' : Heap} {lo : Nat} {v : Value} {l : List UInt8} (hv : Lent h lo v l) (hf : Fr S h h') (hs : ∀ i, S i → i < lo ∨ h.n ≤ i) : Lent h' lo v l := by
  obtain ⟨q, k, cap, j, rfl, hq, hc, hc2, hlo, hlt⟩ := hv.ex
  exact ⟨q, k, cap, j, rfl, by rw [hf.get q hlt fun h => by have := hs _ h; omega, hq], hc, hc2, hlo, hf.lt hlt⟩
end Go.Proofs.YtninaabbojcdpaaGreat.A

namespace Go.Proofs.YtninaabbojcdpaaGreat.A
open Go Go.Vm
set_option maxRecDepth 10000
set_option linter.unusedVariables false
structure RR (h : Heap) (p : Nat) (sv : Value) (bs : List UInt8) (pl : Nat) (e fa : Int) : Prop where
  at_le : pl ≤ bs.length
  small : bs.length < 1048576
  lt : p < h.n
  get : h.get p = .cells [sv, .int .i64 pl, .int .i64 e, .int .i64 fa] 0
  own : Own h 1 sv (bcells bs) bs.length
  apart : ¬ ownedBy sv p
theorem RR.keep {S : Nat → Prop} {h h' : Heap} {p : Nat} {sv : Value} {bs : List UInt8} {pl : Nat} {e fa : Int} (hp : RR h p sv bs pl e fa) (hf : Fr S h h') (hs : ¬ S p) (hb : ∀ i, ownedBy sv i → ¬ S i) : RR h' p sv bs pl e fa :=
  ⟨hp.at_le, hp.small, hf.lt hp.lt, by rw [hf.get p hp.lt hs, hp.get], hp.own.keep hf hb, hp.apart⟩
theorem RR.none {h h' : Heap} {p : Nat} {sv : Value} {bs : List UInt8} {pl : Nat} {e fa : Int} (hp : RR h p sv bs pl e fa) (hf : Fr (fun _ => False) h h') : RR h' p sv bs pl e fa := hp.keep hf id fun _ _ => id
theorem RR.turn {h : Heap} {p : Nat} {sv : Value} {bs : List UInt8} {pl pl' : Nat} {e fa e' fa' : Int} (hp : RR h p sv bs pl e fa) (hl : pl' ≤ bs.length) :
    RR (h.set p (.cells [sv, .int .i64 pl', .int .i64 e', .int .i64 fa'] 0)) p sv bs pl' e' fa' :=
  ⟨hl, hp.small, by simpa using hp.lt, by rw [Heap.get_set, if_pos rfl], hp.own.keep (S := fun i => i = p) (Fr.refl.set fun _ => rfl) fun b hb hbp => hp.apart (hbp ▸ hb), hp.apart⟩
end Go.Proofs.YtninaabbojcdpaaGreat.A

namespace Go.Proofs.YtninaabbojcdpaaGreat.A
open Go Go.Vm
set_option maxRecDepth 10000
set_option linter.unusedVariables false
structure RRs (h : Heap) (p : Nat) (sv : Value) (bs : List UInt8) (st : RSt) : Prop where
  ex : ∃ pl, (st.e = 0 → pl = st.pl ∧ st.fa = 0) ∧ RR h p sv bs pl st.e st.fa
theorem RRs.keep {S : Nat → Prop} {h h' : Heap} {p : Nat} {sv : Value} {bs : List UInt8} {st : RSt} (hp : RRs h p sv bs st) (hf : Fr S h h') (hs : ¬ S p) (hb : ∀ i, ownedBy sv i → ¬ S i) : RRs h' p sv bs st :=
  let ⟨pl, h1, h2⟩ := hp.ex
  ⟨pl, h1, h2.keep hf hs hb⟩
theorem RRs.none {h h' : Heap} {p : Nat} {sv : Value} {bs : List UInt8} {st : RSt} (hp : RRs h p sv bs st) (hf : Fr (fun _ => False) h h') : RRs h' p sv bs st := hp.keep hf id fun _ _ => id
theorem RRs.lt {h : Heap} {p : Nat} {sv : Value} {bs : List UInt8} {st : RSt} (hp : RRs h p sv bs st) : p < h.n := let ⟨_, _, h2⟩ := hp.ex; h2.lt
theorem RRs.own_lt {h : Heap} {p : Nat} {sv : Value} {bs : List UInt8} {st : RSt} (hp : RRs h p sv bs st) {i : Nat} (hi : ownedBy sv i) : i < h.n := let ⟨_, _, h2⟩ := hp.ex; h2.own.lt hi
theorem RRs.mk' {h : Heap} {p : Nat} {sv : Value} {bs : List UInt8} {pl : Nat} (hp : RR h p sv bs pl 0 0) : RRs h p sv bs ⟨pl, 0, 0⟩ := ⟨pl, fun _ => ⟨rfl, rfl⟩, hp⟩
end Go.Proofs.YtninaabbojcdpaaGreat.A

namespace Go.Proofs.YtninaabbojcdpaaGreat.A
open Go Go.Vm
set_option maxRecDepth 10000
set_option linter.unusedVariables false
end Go.Proofs.YtninaabbojcdpaaGreat.A

namespace Go.Proofs.YtninaabbojcdpaaGreat.A
open Go Go.Vm
set_option maxRecDepth 10000
set_option linter.unusedVariables false
theorem RRs.zero {h : Heap} {p : Nat} {sv : Value} {bs : List UInt8} {st : RSt} (hp : RRs h p sv bs st) (h0 : (endS bs st).1 = 0) : (endS bs st).2 = 0 := by
  unfold endS at h0 ⊢
  split at h0
  · cases h0
  · rename_i hc
    rw [if_neg hc]
    obtain ⟨_, h1, _⟩ := hp.ex
    exact (h1 h0).2
end Go.Proofs.YtninaabbojcdpaaGreat.A

namespace Go.Proofs.YtninaabbojcdpaaGreat.A
open Go Go.Vm
set_option maxRecDepth 10000
set_option linter.unusedVariables false
end Go.Proofs.YtninaabbojcdpaaGreat.A

namespace Go.Proofs.YtninaabbojcdpaaGreat.A
open Go Go.Vm
set_option maxRecDepth 10000
set_option linter.unusedVariables false
structure PVs (h : Heap) (S : Nat → Prop) (p lim : Nat) (st : WSt) : Prop where
  ex : ∃ sv, PW h 0 p sv st.bs lim st.e ∧ S p ∧ ∀ i, ownedBy sv i → S i
theorem PVs.mk' {h : Heap} {S : Nat → Prop} {p lim : Nat} {bs : List UInt8} {e : Int} {sv : Value} (hp : S p) (ho : ∀ i, ownedBy sv i → S i) (hw : PW h 0 p sv bs lim e) : PVs h S p lim ⟨bs, e⟩ := ⟨sv, hw, hp, ho⟩
def WritesV (h : Heap) (S : Nat → Prop) (p lim : Nat) (st : WSt) (r : Value) (h' : Heap) : Prop := r = .int .i64 st.e ∧ PVs h' S p lim st ∧ Fr S h h'
theorem PVs.keep {S S' : Nat → Prop} {h h' : Heap} {p lim : Nat} {st : WSt} (hw : PVs h S p lim st) (hf : Fr S' h h') (hs : ∀ i, S' i → ¬ S i) : PVs h' S p lim st :=
  let ⟨sv, h1, h2, h3⟩ := hw.ex
  ⟨sv, h1.keep hf (fun h => hs _ h h2) fun i hi h => hs _ h (h3 i hi), h2, h3⟩
theorem PVs.none {S : Nat → Prop} {h h' : Heap} {p lim : Nat} {st : WSt} (hw : PVs h S p lim st) (hf : Fr (fun _ => False) h h') : PVs h' S p lim st := hw.keep hf fun _ h => h.elim
theorem PVs.mono {S S' : Nat → Prop} {h : Heap} {p lim : Nat} {st : WSt} (hw : PVs h S p lim st) (hs : ∀ i, i < h.n → S i → S' i) : PVs h S' p lim st :=
  let ⟨sv, h1, h2, h3⟩ := hw.ex
  ⟨sv, h1, hs _ h1.lt h2, fun i hi => hs i (h1.own.lt hi) (h3 i hi)⟩
theorem PVs.of {h : Heap} {lo p lim : Nat} {st : WSt} (hw : PWs h lo p lim st) : PVs h (fun i => lo ≤ i) p lim st :=
  let ⟨sv, h1⟩ := hw.ex
  ⟨sv, ⟨h1.lt, Nat.zero_le _, h1.get, h1.own, h1.apart, fun _ _ => Nat.zero_le _, h1.small⟩, h1.le, h1.above⟩
theorem PVs.to {h : Heap} {lo p lim : Nat} {st : WSt} (hw : PVs h (fun i => lo ≤ i) p lim st) : PWs h lo p lim st :=
  let ⟨sv, h1, h2, h3⟩ := hw.ex
  ⟨sv, ⟨h1.lt, h2, h1.get, h1.own, h1.apart, h3, h1.small⟩⟩
theorem PVs.lt {h : Heap} {S : Nat → Prop} {p lim : Nat} {st : WSt} (hw : PVs h S p lim st) : p < h.n := let ⟨_, h1, _⟩ := hw.ex; h1.lt
theorem put_okV {h : Heap} {S : Nat → Prop} {p lim : Nat} {st : WSt} {may : Bool} {v : Value} {ls : List (Value × List UInt8)} (hw : PVs h S p lim st) (hS : ∀ i, h.n ≤ i → S i) (hv : Rd h 1 v (ls.map (·.1)) ls.length) (hp : Parts h ls) (hn : ls.length < 1048576) (hs : st.bs.length + (flat ls).length < 1048576) :
    Runs Tryz.prog T0 (.fn fn_zodQ) [.pointer (some ⟨p, 0, none⟩), .bool may, v] h (WritesV h S p lim (putS lim may (flat ls) st)) (fun _ _ => False) := by
  obtain ⟨bs, e⟩ := st
  obtain ⟨sv, hw, hSp, hSo⟩ := hw.ex
  have hs : bs.length + (flat ls).length < 1048576 := hs
  have hw : PW h 0 p sv bs lim e := hw
  have hlt := hw.lt
  obtain ⟨a0, cap0, rfl, hl0, _⟩ := hw.own.rd
  haveI : HGet h p _ := ⟨hw.get⟩
  refine zodQ_runs ?_
  refine stp ?_
  refine O.call' (Concat_ok hv hp hn (by omega)) (fun r h1 hr => ?_)
  obtain ⟨ho, hnew, hf⟩ := hr
  obtain ⟨a1, cap1, rfl, hl1, _⟩ := ho.rd
  have hw1 := hw.keep hf id fun _ _ => id
  haveI : HGet h1 p _ := ⟨hw1.get⟩
  have hfl : Fr S h h1 := hf.mono fun _ _ h => h.elim
  refine stp ?_
  refine C.ifN (fun he => ?_) (fun he => ?_)
  · refine stp ?_
    unfold putS
    rw [if_pos (by simpa using he)]
    exact ⟨rfl, ⟨_, hw1, hSp, hSo⟩, hfl⟩
  · subst he
    refine stp ?_
    cases may with
    | false =>
      refine stp ?_
      unfold putS
      rw [if_neg (by simp), if_pos rfl]
      refine ⟨rfl, .mk' hSp hSo ⟨by simpa using hw1.lt, Nat.zero_le _, by rw [Heap.get_set, if_pos rfl], hw1.own.keep (S := fun i => i = p) (Fr.refl.set fun _ => rfl) fun i hi hp => hw1.apart (hp ▸ hi), hw1.apart, fun _ _ => Nat.zero_le _, hw1.small⟩, hfl.set fun _ => hSp⟩
    | true =>
      refine stp ?_
      refine C.if (fun hlong => ?_) (fun hfit => ?_)
      · refine stp ?_
        unfold putS
        rw [if_neg (by simp), if_neg (by simp), if_pos (by simp only; omega)]
        refine ⟨rfl, .mk' hSp hSo ⟨by simpa using hw1.lt, Nat.zero_le _, by rw [Heap.get_set, if_pos rfl], hw1.own.keep (S := fun i => i = p) (Fr.refl.set fun _ => rfl) fun i hi hp => hw1.apart (hp ▸ hi), hw1.apart, fun _ _ => Nat.zero_le _, hw1.small⟩, hfl.set fun _ => hSp⟩
      · refine stp ?_
        refine O.append hw1.own (ho.rd.new [.int .u8 0]) (by rw [bcells_len]; omega) (bcells_one _) (by omega) (by omega) (by omega) (fun v' h2 h3 h4 h5 => ?_)
        obtain ⟨a2, cap2, rfl, hl2, _⟩ := h3.rd
        have hp2 : HGet h2 p _ := h4.keep ⟨hw1.get⟩ hw1.lt hw1.apart
        refine stp ?_
        have hnp : ¬ ownedBy (.slice a2 (bs.length + (flat ls).length) cap2) p := fun hi => by
          rcases h5 p hi with h6 | h6
          · exact hw1.apart h6
          · have := hw1.lt; omega
        unfold putS
        rw [if_neg (by simp), if_neg (by simp), if_neg (by simp only; omega)]
        refine ⟨rfl, .mk' (sv := .slice a2 (bs.length + (flat ls).length) cap2) hSp (fun i hi => ?_) ⟨by have := h4.lt hw1.lt; simpa using this, Nat.zero_le _, by rw [Heap.get_set, if_pos rfl], ?_, hnp, fun _ _ => Nat.zero_le _, by simp; omega⟩, Fr.set (Fr.trans (S := S) hfl h4 fun i hi ho' => hSo i ho') fun _ => hSp⟩
        · rcases h5 i hi with h6 | h6
          · exact hSo i h6
          · have := hf.n; exact hS i (by omega)
        · show Own _ 1 (.slice a2 (bs.length + (flat ls).length) cap2) (bcells (bs ++ flat ls)) (bs ++ flat ls).length
          rw [bcells_append, List.length_append]
          exact h3.keep (S := fun i => i = p) (Fr.refl.set fun _ => rfl) fun i hi hp => hnp (hp ▸ hi)
theorem WNum_okV {h : Heap} {S : Nat → Prop} {p lim : Nat} {st : WSt} {n : Int} (hw : PVs h S p lim st) (hS : ∀ i, h.n ≤ i → S i) (hn : n ≤ 9223372036854775807) (hs : st.bs.length + 9 < 1048576) :
    Runs Tryz.prog T0 (.fn fn_zldQ) [.pointer (some ⟨p, 0, none⟩), .int .i64 n] h (WritesV h S p lim (putS lim (decide (0 ≤ n)) (numF n.toNat) st)) (fun _ _ => False) := by
  refine zldQ_runs ?_
  refine stp ?_
  have hm : (if (0 : Int) > n then 0 else n) = ((n.toNat : Nat) : Int) := by split <;> omega
  rw [hm]
  refine O.call' (number_ok (N := n.toNat) (by omega)) (fun r h1 hr => ?_)
  obtain ⟨hrd, hnew, hf⟩ := hr
  have hw1 := hw.none hf
  have hfl := numF_len (n := n.toNat) (by omega)
  obtain ⟨a1, cap1, rfl, hl1, _⟩ := id hrd
  refine stp ?_
  refine O.call' (put_okV (ls := [(.slice a1 (numF n.toNat).length cap1, numF n.toNat)]) (hw1.none Fr.refl.push) (fun i hi => hS i (by have := hf.n; simp at hi; omega)) (rd_lit rfl) ?_ (by simp) (by simp [flat]; omega)) (fun r h2 hr => ?_)
  · intro q hq
    simp at hq
    subst hq
    exact hrd.keep (S := fun _ => False) Fr.refl.push fun _ _ => id
  · refine stp ?_
    rw [show flat [(Value.slice a1 (numF n.toNat).length cap1, numF n.toNat)] = numF n.toNat from by simp [flat]] at hr
    exact ⟨hr.1, hr.2.1, Fr.trans (S := S) (hf.mono fun _ _ h => h.elim) (Fr.trans (S := S) Fr.refl.push hr.2.2 fun _ _ h => h) fun _ _ h => h⟩
theorem WBytes_okV {h : Heap} {S : Nat → Prop} {p lim : Nat} {st : WSt} {v : Value} {l : List UInt8} (hw : PVs h S p lim st) (hS : ∀ i, h.n ≤ i → S i) (hv : Rd h 1 v (bcells l) l.length) (hs : st.bs.length + l.length + 9 < 1048576) :
    Runs Tryz.prog T0 (.fn fn_zhdQ) [.pointer (some ⟨p, 0, none⟩), v] h (WritesV h S p lim (putS lim true (numF l.length ++ l) st)) (fun _ _ => False) := by
  have hv' := hv
  obtain ⟨a0, cap0, rfl, hl0, _⟩ := hv
  refine zhdQ_runs ?_
  refine stp ?_
  refine O.call' (number_ok (N := l.length) (by omega)) (fun r h1 hr => ?_)
  obtain ⟨hrd, hnew, hf⟩ := hr
  have hw1 := hw.none hf
  have hfl := numF_len (n := l.length) (by omega)
  obtain ⟨a1, cap1, rfl, hl1, _⟩ := id hrd
  refine stp ?_
  refine O.call' (put_okV (ls := [(.slice a1 (numF l.length).length cap1, numF l.length), (.slice a0 l.length cap0, l)]) (hw1.none Fr.refl.push) (fun i hi => hS i (by have := hf.n; simp at hi; omega)) (rd_lit rfl) ?_ (by simp) (by simp [flat]; omega)) (fun r h2 hr => ?_)
  · intro q hq
    simp at hq
    rcases hq with rfl | rfl
    · exact hrd.keep (S := fun _ => False) Fr.refl.push fun _ _ => id
    · exact (hv'.keep hf fun _ _ => id).keep (S := fun _ => False) Fr.refl.push fun _ _ => id
  · refine stp ?_
    rw [show flat [(Value.slice a1 (numF l.length).length cap1, numF l.length), (Value.slice a0 l.length cap0, l)] = numF l.length ++ l from by simp [flat]] at hr
    exact ⟨hr.1, hr.2.1, Fr.trans (S := S) (hf.mono fun _ _ h => h.elim) (Fr.trans (S := S) Fr.refl.push hr.2.2 fun _ _ h => h) fun _ _ h => h⟩
theorem WKey_okV {h : Heap} {S : Nat → Prop} {p lim : Nat} {st : WSt} {v : Val} (hw : PVs h S p lim st) (hS : ∀ i, h.n ≤ i → S i) (hs : st.bs.length + 4 < 1048576) :
    Runs Tryz.prog T0 (.fn fn_zkdQ) [.pointer (some ⟨p, 0, none⟩), .agg ⟨[.int .u8 v.k0.toNat, .int .u8 v.k1.toNat, .int .u8 v.k2.toNat, .int .u8 v.k3.toNat]⟩] h (WritesV h S p lim (putS lim true v.key st)) (fun _ _ => False) := by
  refine zkdQ_runs ?_
  refine stp ?_
  refine O.call' (put_okV (ls := [(.slice (some ⟨h.n, 0, none⟩) 4 4, v.key)]) (hw.none Fr.refl.push.push) (fun i hi => hS i (by simp at hi; omega)) (rd_lit rfl) ?_ (by simp) (by simp [flat]; omega)) (fun r h2 hr => ?_)
  · intro q hq
    simp at hq
    subst hq
    exact (rd_lit (h := h) (c := bcells v.key) (es := 0) (n := 4) rfl).keep (S := fun _ => False) Fr.refl.push fun _ _ => id
  · refine stp ?_
    rw [show flat [(Value.slice (some ⟨h.n, 0, none⟩) 4 4, v.key)] = v.key from by simp [flat]] at hr
    exact ⟨hr.1, hr.2.1, Fr.trans (S := S) Fr.refl.push.push hr.2.2 fun _ _ h => h⟩
end Go.Proofs.YtninaabbojcdpaaGreat.A

namespace Go.Proofs.YtninaabbojcdpaaGreat.A
open Go Go.Vm
set_option maxRecDepth 10000
set_option linter.unusedVariables false
def bodyV (l : List Val) : List UInt8 := l.flatMap fun v => v.key ++ numF v.p.toNat
def encV (l : List Val) : List UInt8 := numF l.length ++ bodyV l
theorem stepsV_range {least : Int} : ∀ {l : List Val} {o : Option Val}, stepsV least o l = 0 → ∀ v ∈ l, least ≤ v.p ∧ v.p ≤ 4611686018427387904
  | [], _, _, _, h => by cases h
  | v :: l, o, h, w, hw => by
    have key : ∀ b : Bool, (if b = true then (9 : Int) else if v.p < least ∨ 4611686018427387904 < v.p then 3 else stepsV least (some v) l) = 0 → least ≤ w.p ∧ w.p ≤ 4611686018427387904 := by
      intro b h
      by_cases hA : b = true
      · rw [if_pos hA] at h; cases h
      · rw [if_neg hA] at h
        by_cases hB : v.p < least ∨ 4611686018427387904 < v.p
        · rw [if_pos hB] at h; cases h
        · rw [if_neg hB] at h
          rcases List.mem_cons.1 hw with rfl | hw
          · omega
          · exact stepsV_range h w hw
    exact key _ h
theorem checkV_ok {l : List Val} (h : checkV l = 0) : 0 < l.length ∧ l.length ≤ 64 ∧ stepsV 1 none l = 0 ∧ ∀ v ∈ l, 1 ≤ v.p ∧ v.p ≤ 4611686018427387904 := by
  unfold checkV at h
  split at h
  · cases h
  · split at h
    · cases h
    · exact ⟨by omega, by omega, h, stepsV_range h⟩
theorem bodyV_len : ∀ {l : List Val}, (∀ v ∈ l, 1 ≤ v.p ∧ v.p ≤ 4611686018427387904) → (bodyV l).length ≤ l.length * 13
  | [], _ => by simp [bodyV]
  | v :: l, h => by
    have h1 := bodyV_len (l := l) fun w hw => h w (by simp [hw])
    have h2 := h v (by simp)
    have h3 := numF_len (n := v.p.toNat) (by omega)
    simp only [bodyV, List.flatMap_cons, List.length_append, List.length_cons, List.length_nil] at h1 ⊢
    omega
theorem bodyV_take {l : List Val} {k : Nat} (hk : k < l.length) : bodyV (l.take (k + 1)) = bodyV (l.take k) ++ ((l.getD k zVal).key ++ numF (l.getD k zVal).p.toNat) := by
  have : l.take (k + 1) = l.take k ++ [l.getD k zVal] := by
    rw [List.take_succ_eq_append_getElem hk]
    simp [List.getD, hk]
  rw [this]
  simp [bodyV]
theorem encV_len {l : List Val} (h : checkV l = 0) : (encV l).length ≤ 841 := by
  obtain ⟨h1, h2, _, h3⟩ := checkV_ok h
  have h4 := bodyV_len h3
  have h5 := numF_len (n := l.length) (by omega)
  unfold encV
  rw [List.length_append]
  omega
theorem getD_mem {l : List Val} {k : Nat} (hk : k < l.length) : l.getD k zVal ∈ l := by
  simp [List.getD, hk]
theorem VEncode_ok {h : Heap} {v : Value} {l : List Val} (hv : Rd h 5 v (vcells l) l.length) : Runs Tryz.prog T0 (.fn fn_zmcQ) [v] h
    (fun r h' => ∃ w, r = .tuple ⟨[w, .int .i64 (checkV l)]⟩ ∧ Own h' 1 w (bcells (if checkV l = 0 then encV l else [])) (if checkV l = 0 then encV l else []).length ∧ (∀ i, ownedBy w i → h.n ≤ i) ∧ Fr (fun _ => False) h h') (fun _ _ => False) := by
  have k1 := VCheck_ok hv
  obtain ⟨a, cap, rfl, hlen, hc⟩ := hv
  refine zmcQ_runs ?_
  refine stp ?_
  refine O.call' k1 (fun r h1 hr => ?_)
  obtain ⟨rfl, hf1⟩ := hr
  have hn1 := hf1.n
  refine stp ?_
  refine C.ifN (fun hc => ?_) (fun hz => ?_)
  · refine stp ?_
    rw [if_neg hc]
    exact ⟨_, rfl, .none, fun i h => h.elim, hf1⟩
  · refine stp ?_
    obtain ⟨c1, c2, c3, c4⟩ := checkV_ok hz
    obtain ⟨b, o, sp, rfl, hb, hcc⟩ := hc (by omega)
    have hnl := numF_len (n := l.length) (by omega)
    refine O.call' (NewWriter_ok (lim := 1048576) (by omega)) (fun r h2 hr => ?_)
    obtain ⟨rfl, hw2, hf2⟩ := hr
    have hn2 := hf2.n
    refine stp ?_
    refine O.call' (WNum_ok hw2 (by omega) (by simp only [List.length_nil]; omega)) (fun r h3 hr => ?_)
    obtain ⟨rfl, hw3, hf3⟩ := hr
    have hn3 := hf3.n
    rw [decide_eq_true (by omega), putS_fit (by simp only [List.length_nil, Int.toNat_natCast]; omega), List.nil_append, Int.toNat_natCast] at hw3
    have f13 : Fr (fun i => h1.n ≤ i) h1 h3 := (hf2.mono fun _ _ h => h.elim).trans' hf3
    have f03 : Fr (fun i => h1.n ≤ i) h h3 := Fr.trans (S := fun i => h1.n ≤ i) (hf1.mono fun _ _ h => h.elim) f13 fun _ _ h => h
    refine stp ?_
    refine zmcQ_l0_rule (fun m v24 h' => ∃ k : Nat, k ≤ l.length ∧ m = l.length - k ∧ v24 = .int .i64 k ∧ PVs h' (fun i => h1.n ≤ i) h1.n 1048576 ⟨numF l.length ++ bodyV (l.take k), 0⟩ ∧ Fr (fun i => h1.n ≤ i) h h') ?_ l.length ⟨0, by omega, rfl, rfl, by simpa [bodyV] using PVs.of hw3, f03⟩
    rintro m v24 h' x8 x25 x26 x27 x28 x29 x30 x31 x32 x33 x34 x35 x36 ⟨k, hk, rfl, rfl, hw, hf⟩
    refine stp ?_
    refine C.if (fun hlt => ?_) (fun hge => ?_)
    · have hlt : k < l.length := by omega
      have hcc' : cellsAt h' b o (l.length * 5) = some (vcells l) := by rw [cellsAt_keep hf hb (by omega)]; exact hcc
      haveI := val_cells hcc' rfl hlt
      have hr := c4 _ (getD_mem hlt)
      have hbl := bodyV_len (l := l.take k) fun v hv => c4 v (List.mem_of_mem_take hv)
      rw [List.length_take] at hbl
      have hmin : min k l.length = k := by omega
      rw [hmin] at hbl
      have hpl := numF_len (n := (l.getD k zVal).p.toNat) (by omega)
      refine stp ?_
      have hlt' := hw.lt
      have hS : ∀ i, (h'.push (.cells (l.getD k zVal).cells 0)).n ≤ i → h1.n ≤ i ∧ i ≠ h'.n := fun i hi => by simp at hi; omega
      have hw0 : PVs (h'.push (.cells (l.getD k zVal).cells 0)) (fun i => h1.n ≤ i ∧ i ≠ h'.n) h1.n 1048576 ⟨numF l.length ++ bodyV (l.take k), 0⟩ := (hw.mono fun i hi hs => ⟨hs, by omega⟩).none Fr.refl.push
      refine O.call' (WKey_okV (v := l.getD k zVal) hw0 hS (by simp only [List.length_append]; omega)) (fun r h4 hr => ?_)
      obtain ⟨rfl, hw4, hf4⟩ := hr
      rw [putS_fit (by simp only [List.length_append, List.length_cons, List.length_nil]; omega)] at hw4
      have hn4 := hf4.n
      have hq4 : HGet h4 h'.n (.cells (l.getD k zVal).cells 0) := hf4.keep HGet.new (by simp) (by simp)
      haveI := hq4
      simp only [Heap.n_push] at hn4
      refine stp ?_
      refine O.call' (WNum_okV hw4 (fun i hi => by omega) (by omega) (by simp only [List.length_append, List.length_cons, List.length_nil]; omega)) (fun r h5 hr => ?_)
      obtain ⟨rfl, hw5, hf5⟩ := hr
      rw [decide_eq_true (by omega), putS_fit (by simp only [List.length_append, List.length_cons, List.length_nil]; omega)] at hw5
      refine stp ?_
      refine zmcQ_l0_again (l.length - (k + 1)) (by omega) ⟨k + 1, by omega, rfl, rfl, ?_, ?_⟩
      · rw [bodyV_take hlt, ← List.append_assoc, ← List.append_assoc]
        exact hw5.mono fun i _ hs => hs.1
      · exact Fr.trans (S := fun i => h1.n ≤ i) hf ((Fr.trans (S := fun i => h1.n ≤ i ∧ i ≠ h'.n) Fr.refl.push (hf4.trans' hf5) fun _ _ h => h).mono fun _ _ h => h.1) fun _ _ h => h
    · obtain rfl : k = l.length := by omega
      rw [List.take_length] at hw
      refine stp ?_
      refine O.call' (Done_ok hw.to) (fun r h4 hr => ?_)
      obtain ⟨w, rfl, ho, hnew, hf4⟩ := hr
      refine stp ?_
      rw [hz] at *
      rw [if_pos rfl]
      refine ⟨w, rfl, by simpa [encV] using ho, fun i hi => ?_, Fr.trans (S := fun _ => False) (S' := fun i => h1.n ≤ i) Fr.refl (hf.trans' (hf4.mono fun _ _ h => h.elim)) fun i hi h => by omega⟩
      have := hnew i hi
      have := hf.n
      omega
end Go.Proofs.YtninaabbojcdpaaGreat.A

namespace Go.Proofs.YtninaabbojcdpaaGreat.A
open Go Go.Vm
set_option maxRecDepth 10000
set_option linter.unusedVariables false
end Go.Proofs.YtninaabbojcdpaaGreat.A

namespace Go.Proofs.YtninaabbojcdpaaGreat.A
open Go Go.Vm
set_option maxRecDepth 10000
set_option linter.unusedVariables false
theorem mkStoreN {P : Program} {ts : List Value} {h : Heap} {a x : Operand} {v : Value} {o r n es : Nat} {sp : Option Nat} {xs c : List Value} (ho : o + xs.length ≤ c.length) (h1 : xs.all Value.oneCell' = true) (hn : n = xs.length) [e : Ev ts a (.pointer (some ⟨r, o, sp⟩))] [f : Ev ts x v] [k : CellsOf v xs] [g : HGet h r (.cells c es)] :
    xop P (eval ts) h (.store n a x) = .ok undef (h.set r (.cells (over c o xs) es)) := by
  have hp : putAt h r o xs = some (h.set r (.cells (over c o xs) es)) := by
    unfold putAt
    rw [g.eq]
    show (if o + xs.length ≤ c.length ∧ xs.all Value.oneCell' = true then some (h.set r (.cells (over c o xs) es)) else none) = _
    rw [if_pos ⟨ho, h1⟩]
  subst hn
  simp only [xop, e.eq, f.eq, k.eq, k.len, hp, if_true]
theorem SameVals_same {h : Heap} {v w : Value} {l : List Val} (hv : Rd h 5 v (vcells l) l.length) (hw : Rd h 5 w (vcells l) l.length) (hs : l.length < 1048576) :
    Runs Tryz.prog T0 (.fn fn_zkbQ) [v, w] h (fun r h' => r = .bool true ∧ h' = h) (fun _ _ => False) := by
  obtain ⟨a, cap, rfl, hlen, hc⟩ := hv
  obtain ⟨a', cap', rfl, hlen', hc'⟩ := hw
  refine zkbQ_runs ?_
  refine stpP ?_
  refine zkbQ_l0_rule (fun m v5 v6 h' => ∃ k : Nat, k ≤ l.length ∧ m = l.length - k ∧ v6 = .int .i64 k ∧ v5 = .bool true ∧ h' = h) ?_ l.length ⟨0, by omega, rfl, rfl, by simp, rfl⟩
  rintro m v5 v6 h' x12 x13 x14 x15 x16 x17 x18 x19 x20 x21 x22 x23 x24 x25 x26 x27 x28 x29 ⟨k, hk, rfl, rfl, rfl, rfl⟩
  refine stpP ?_
  refine C.if (fun hlt => ?_) (fun hge => ?_)
  · have hlt : k < l.length := by omega
    obtain ⟨b, o, sp, rfl, hb, hcc⟩ := hc (by omega)
    obtain ⟨b', o', sp', rfl, hb', hcc'⟩ := hc' (by omega)
    haveI := val_cells hcc rfl hlt
    haveI := val_cells hcc' rfl hlt
    refine stpP ?_
    rw [same_self]
    exact zkbQ_l0_again (l.length - (k + 1)) (by omega) ⟨k + 1, by omega, rfl, rfl, rfl, rfl⟩
  · refine stpP ?_
    exact ⟨rfl, rfl⟩
theorem Rd.block_lt {h : Heap} {size n : Nat} {v : Value} {c : List Value} (hv : Rd h size v c n) {i : Nat} (hi : blockOf v i) : i < h.n := by
  obtain ⟨a, cap, rfl, _, hc⟩ := hv
  cases a with
  | none => exact hi.elim
  | some a =>
    obtain ⟨h1, h2⟩ := hi
    obtain ⟨b, o, sp, e, hb, _⟩ := hc h2
    cases e
    subst h1
    exact hb
end Go.Proofs.YtninaabbojcdpaaGreat.A

namespace Go.Proofs.YtninaabbojcdpaaGreat.A
open Go Go.Vm
set_option maxRecDepth 10000
set_option linter.unusedVariables false
theorem bigN_beN : ∀ (n : Nat), bigN (beN n) = n := by
  intro n
  induction n using Nat.strongRecOn with
  | _ n ih =>
    by_cases h : n = 0
    · subst h; rw [beN_zero]; rfl
    · rw [beN_pos h, bigN_snoc, ih (n / 256) (by omega), u8nat (Nat.mod_lt _ (by omega))]
      omega
theorem beN_head : ∀ (n : Nat), n ≠ 0 → ((beN n).getD 0 0).toNat ≠ 0 := by
  intro n
  induction n using Nat.strongRecOn with
  | _ n ih =>
    intro h
    rw [beN_pos h]
    by_cases h2 : n / 256 = 0
    · rw [h2, beN_zero]
      simp only [List.nil_append, List.getD_cons_zero]
      rw [u8nat (Nat.mod_lt _ (by omega))]
      omega
    · have h3 := ih (n / 256) (by omega) h2
      have hl : (beN (n / 256)) ≠ [] := by rw [beN_pos h2]; simp
      cases hb : beN (n / 256) with
      | nil => exact absurd hb hl
      | cons a l => rw [hb] at h3; simpa using h3
theorem bigN_pos {d : List UInt8} (h : (d.getD 0 0).toNat ≠ 0) : bigN d ≠ 0 := by
  have key : ∀ (l : List UInt8) (n : Nat), n ≠ 0 → l.foldl (fun n b => n * 256 + b.toNat) n ≠ 0 := by
    intro l
    induction l with
    | nil => intro n h; exact h
    | cons b l ih =>
      intro n h
      show l.foldl (fun n b => n * 256 + b.toNat) (n * 256 + b.toNat) ≠ 0
      exact ih _ (by omega)
  cases d with
  | nil => simp at h
  | cons a l =>
    show (a :: l).foldl (fun n b => n * 256 + b.toNat) 0 ≠ 0
    exact key l _ (by simpa using h)
theorem beN_bigN : ∀ (k : Nat) (d : List UInt8), d.length = k → (0 < d.length → (d.getD 0 0).toNat ≠ 0) → beN (bigN d) = d := by
  intro k
  induction k with
  | zero =>
    intro d hd _
    have : d = [] := List.length_eq_zero_iff.1 hd
    subst this
    exact beN_zero
  | succ k ih =>
    intro d hd h
    obtain ⟨l, b, rfl⟩ : ∃ l b, d = l ++ [b] := ⟨d.dropLast, d.getLast (by intro h; rw [h] at hd; simp at hd), (List.dropLast_concat_getLast _).symm⟩
    have hb := b.toNat_lt
    have hlen : l.length = k := by simpa using hd
    have hl : 0 < l.length → (l.getD 0 0).toNat ≠ 0 := fun hp => by
      cases l with
      | nil => simp at hp
      | cons a l => simpa using h (by simp)
    have h0 := bigN_pos (h (by simp))
    rw [bigN_snoc] at h0 ⊢
    rw [beN_pos h0]
    have e1 : (bigN l * 256 + b.toNat) / 256 = bigN l := by omega
    have e2 : (bigN l * 256 + b.toNat) % 256 = b.toNat := by omega
    rw [e1, e2, ih l hlen hl]
    congr 2
    exact UInt8.toNat_inj.1 (u8nat (by omega))
theorem drop_split {l : List UInt8} {pl k : Nat} (h : pl + k ≤ l.length) : l.drop pl = (l.drop pl).take k ++ l.drop (pl + k) := by
  rw [← List.drop_drop, List.take_append_drop]
theorem drop_one {l : List UInt8} {pl : Nat} (h : pl < l.length) : l.drop pl = l.getD pl 0 :: l.drop (pl + 1) := by
  rw [List.drop_eq_getElem_cons h]
  simp [List.getD_eq_getElem?_getD, List.getElem?_eq_getElem h]
theorem numS_form {bs : List UInt8} {pl n pl' : Nat} (h : numS bs pl = .ok (n, pl')) : bs.drop pl = numF n ++ bs.drop pl' := by
  have hb := (bs.getD pl 0).toNat_lt
  unfold numS at h
  split at h
  · cases h
  · split at h
    · cases h
    · split at h
      · cases h
      · split at h
        · cases h
        · rename_i h1 h2 h3 h4
          cases h
          have hd : ((bs.drop (pl + 1)).take (bs.getD pl 0).toNat).length = (bs.getD pl 0).toNat := by rw [List.length_take, List.length_drop]; omega
          rw [drop_one (by omega)]
          unfold numF
          rw [beN_bigN _ _ hd fun hp h0 => h4 (.inl ⟨by omega, h0⟩), hd]
          rw [show UInt8.ofNat (bs.getD pl 0).toNat = bs.getD pl 0 from UInt8.toNat_inj.1 (u8nat (by omega))]
          rw [List.cons_append, ← drop_split (by omega)]
theorem getD_at {a b : List UInt8} {x : UInt8} : (a ++ x :: b).getD a.length 0 = x := by simp [List.getD_eq_getElem?_getD]
theorem numS_back {a b : List UInt8} {n : Nat} (hn : n ≤ 9223372036854775807) : numS (a ++ (numF n ++ b)) a.length = .ok (n, a.length + (numF n).length) := by
  have h8 := beN_len 8 n (by omega)
  unfold numF
  have hg : (a ++ (UInt8.ofNat (beN n).length :: beN n ++ b)).getD a.length 0 = UInt8.ofNat (beN n).length := by rw [List.cons_append]; exact getD_at
  have hk : (UInt8.ofNat (beN n).length).toNat = (beN n).length := u8nat (by omega)
  have hd : ((a ++ (UInt8.ofNat (beN n).length :: beN n ++ b)).drop (a.length + 1)).take (beN n).length = beN n := by
    rw [← List.drop_drop, List.drop_left]
    simp
  unfold numS
  rw [hg, hk, hd, bigN_beN]
  simp only [List.length_append, List.length_cons]
  rw [if_neg (by omega), if_neg (by omega), if_neg (by omega), if_neg]
  · congr 2; omega
  · rintro (⟨h1, h2⟩ | h)
    · refine beN_head n (fun h0 => ?_) h2
      subst h0
      rw [beN_zero] at h1
      simp at h1
    · omega
theorem bytesS_form {bs l : List UInt8} {most pl pl' : Nat} (h : bytesS bs most pl = .ok (l, pl')) : l.length ≤ most ∧ bs.drop pl = numF l.length ++ (l ++ bs.drop pl') ∧ pl' ≤ bs.length := by
  unfold bytesS at h
  split at h
  · cases h
  · rename_i n pl1 hn
    split at h
    · cases h
    · split at h
      · cases h
      · cases h
        have h2 := numS_ok hn
        have hl : ((bs.drop pl1).take n).length = n := by rw [List.length_take, List.length_drop]; omega
        rw [hl, numS_form hn]
        exact ⟨by omega, by rw [← drop_split (by omega)], by omega⟩
theorem bytesS_back {a b l : List UInt8} {most : Nat} (hl : l.length ≤ most) (hm : l.length ≤ 9223372036854775807) : bytesS (a ++ (numF l.length ++ (l ++ b))) most a.length = .ok (l, a.length + (numF l.length).length + l.length) := by
  unfold bytesS
  rw [numS_back hm]
  simp only [List.length_append]
  rw [if_neg (by omega), if_neg (by omega)]
  congr 2
  rw [← List.drop_drop, List.drop_left, List.drop_left, List.take_left]
theorem partS_form {bs l : List UInt8} {k pl pl' : Nat} (h : partS k bs pl = .ok (l, pl')) : l.length = k ∧ bs.drop pl = l ++ bs.drop pl' ∧ pl' ≤ bs.length := by
  unfold partS at h
  split at h
  · cases h
  · cases h
    exact ⟨by rw [List.length_take, List.length_drop]; omega, drop_split (by omega), by omega⟩
theorem partS_back {a b l : List UInt8} {k : Nat} (hl : l.length = k) : partS k (a ++ (l ++ b)) a.length = .ok (l, a.length + k) := by
  unfold partS
  simp only [List.length_append]
  rw [if_neg (by omega), List.drop_left]
  congr 2
  rw [← hl, List.take_left]
def Ends (bs : List UInt8) {α : Type} (S : Nat → Except Int (α × Nat)) : Prop := (∀ pl a pl', S pl = .ok (a, pl') → pl' ≤ bs.length) ∧ ∀ pl e, S pl = .error e → e = 4 ∨ e = 5 ∨ e = 6
theorem numS_ends {bs : List UInt8} : Ends bs (numS bs) := ⟨fun pl a pl' h => (numS_ok h).2.1, fun pl e h => .inr (numS_err h)⟩
theorem bytesS_ends {bs : List UInt8} {most : Nat} : Ends bs (bytesS bs most) := ⟨fun pl a pl' h => (bytesS_form h).2.2, fun pl e h => by
  unfold bytesS at h
  split at h
  · rename_i e' hn
    cases h
    exact .inr (numS_err hn)
  · split at h
    · cases h; exact .inl rfl
    · split at h
      · cases h; exact .inr (.inr rfl)
      · cases h⟩
theorem partS_ends {bs : List UInt8} {k : Nat} : Ends bs (partS k bs) := ⟨fun pl a pl' h => (partS_form h).2.2, fun pl e h => by
  unfold partS at h
  split at h
  · cases h; exact .inr (.inr rfl)
  · cases h⟩
structure RSt.ok (bs : List UInt8) (st : RSt) : Prop where
  pl : st.e = 0 → st.pl ≤ bs.length ∧ st.fa = 0
  fa : 0 ≤ st.fa ∧ st.fa ≤ bs.length
theorem rd_st {α : Type} {bs : List UInt8} {S : Nat → Except Int (α × Nat)} {zero : α} {st : RSt} (hE : Ends bs S) (hs : st.ok bs) : (rd S zero st).2.ok bs := by
  unfold rd
  split
  · rename_i he
    cases hS : S st.pl with
    | ok x => exact ⟨fun _ => ⟨hE.1 _ _ _ hS, rfl⟩, by simp⟩
    | error e => exact ⟨fun h0 => by have := hE.2 _ _ hS; have h0 : e = 0 := h0; omega, by have := (hs.pl he).1; simp only; omega⟩
  · exact hs
theorem rd_good {α : Type} {bs : List UInt8} {S : Nat → Except Int (α × Nat)} {zero : α} {st : RSt} (hE : Ends bs S) (h : (rd S zero st).2.e = 0) : st.e = 0 ∧ S st.pl = .ok ((rd S zero st).1, (rd S zero st).2.pl) := by
  unfold rd at h ⊢
  split at h
  · rename_i he
    rw [if_pos he]
    cases hS : S st.pl with
    | ok x => exact ⟨he, rfl⟩
    | error e =>
      rw [hS] at h
      have := hE.2 _ _ hS
      have h : e = 0 := h
      omega
  · rename_i he
    exact absurd h he
theorem rd_step {α : Type} {S : Nat → Except Int (α × Nat)} {zero a : α} {pl pl' : Nat} (h : S pl = .ok (a, pl')) : rd S zero ⟨pl, 0, 0⟩ = (a, ⟨pl', 0, 0⟩) := by
  unfold rd
  rw [if_pos rfl]
  simp only [h]
end Go.Proofs.YtninaabbojcdpaaGreat.A

namespace Go.Proofs.YtninaabbojcdpaaGreat.A
open Go Go.Vm
set_option maxRecDepth 10000
set_option linter.unusedVariables false
theorem st0_ok (bs : List UInt8) : RSt.ok bs ⟨0, 0, 0⟩ := ⟨fun _ => ⟨by simp, rfl⟩, by simp⟩
theorem headD_st (bs : List UInt8) : (headD bs).2.ok bs := rd_st numS_ends (rd_st numS_ends (rd_st bytesS_ends (st0_ok bs)))
theorem stepD_st (bs : List UInt8) {y : Hd × RSt} (hy : y.2.ok bs) : ∀ k, (stepD bs k y).2.ok bs
  | 0 => hy
  | k + 1 => rd_st partS_ends (stepD_st bs hy k)
def faultS (bs : List UInt8) : Int × Int := endS bs (stepD bs 4 (headD bs)).2
def gaultS (bs : List UInt8) : Int × Int := if faultS bs = (0, 0) then (checkS (stepD bs 4 (headD bs)).1, 0) else faultS bs
theorem decS_eq (bs : List UInt8) : decS bs = if gaultS bs = (0, 0) then ((stepD bs 4 (headD bs)).1, (0, 0)) else (zeroHd, gaultS bs) := rfl
theorem endS_zero {bs : List UInt8} {st : RSt} (h : st.ok bs) (h0 : (endS bs st).1 = 0) : endS bs st = (0, 0) := by
  unfold endS at h0 ⊢
  split at h0
  · cases h0
  · rename_i hc
    rw [if_neg hc]
    have h0 : st.e = 0 := h0
    rw [h0, (h.pl h0).2]
theorem gaultS_zero {bs : List UInt8} (h : (gaultS bs).1 = 0) : gaultS bs = (0, 0) := by
  unfold gaultS at h ⊢
  split at h
  · rename_i hc
    rw [if_pos hc]
    have h : checkS (stepD bs 4 (headD bs)).1 = 0 := h
    rw [h]
  · rename_i hc
    exact absurd (endS_zero (stepD_st bs (headD_st bs) 4) h) hc
theorem decS_good {bs : List UInt8} (h : (decS bs).2.1 = 0) : checkS (decS bs).1 = 0 ∧ encS (decS bs).1 = bs ∧ (decS bs).2 = (0, 0) := by
  have hg : gaultS bs = (0, 0) := by
    rw [decS_eq] at h
    split at h
    · rename_i hc; exact hc
    · exact gaultS_zero h
  rw [decS_eq, if_pos hg]
  have hf : faultS bs = (0, 0) := by
    unfold gaultS at hg
    split at hg
    · rename_i hc; exact hc
    · exact hg
  have hc : checkS (stepD bs 4 (headD bs)).1 = 0 := by
    unfold gaultS at hg
    rw [if_pos hf] at hg
    injection hg
  refine ⟨hc, ?_, rfl⟩
  have hst := stepD_st bs (headD_st bs) 4
  have he : (stepD bs 4 (headD bs)).2.e = 0 ∧ (stepD bs 4 (headD bs)).2.pl = bs.length := by
    unfold faultS endS at hf
    split at hf
    · cases hf
    · rename_i hn
      have h0 : (stepD bs 4 (headD bs)).2.e = 0 := by injection hf
      refine ⟨h0, ?_⟩
      have := (hst.pl h0).1
      have h1 : ¬ (stepD bs 4 (headD bs)).2.pl < bs.length := fun hl => hn ⟨h0, hl⟩
      omega
  obtain ⟨e4, hpl⟩ := he
  obtain ⟨e3, s3⟩ := rd_good (S := partS 32 bs) (zero := zb32) (st := (stepD bs 3 (headD bs)).2) partS_ends e4
  obtain ⟨e2, s2⟩ := rd_good (S := partS 32 bs) (zero := zb32) (st := (stepD bs 2 (headD bs)).2) partS_ends e3
  obtain ⟨e1, s1⟩ := rd_good (S := partS 32 bs) (zero := zb32) (st := (stepD bs 1 (headD bs)).2) partS_ends e2
  obtain ⟨e0, s0⟩ := rd_good (S := partS 32 bs) (zero := zb32) (st := (headD bs).2) partS_ends e1
  obtain ⟨f2, t2⟩ := rd_good (S := numS bs) (zero := 0) (st := (rd (numS bs) 0 (rd (bytesS bs 32) [] ⟨0, 0, 0⟩).2).2) numS_ends e0
  obtain ⟨f1, t1⟩ := rd_good (S := numS bs) (zero := 0) (st := (rd (bytesS bs 32) [] ⟨0, 0, 0⟩).2) numS_ends f2
  obtain ⟨f0, t0⟩ := rd_good (S := bytesS bs 32) (zero := []) (st := ⟨0, 0, 0⟩) bytesS_ends f1
  have b0 := (bytesS_form t0).2.1
  have b1 := numS_form t1
  have b2 := numS_form t2
  have c0 := (partS_form s0).2.1
  have c1 := (partS_form s1).2.1
  have c2 := (partS_form s2).2.1
  have c3 := (partS_form s3).2.1
  have hend : bs.drop (rd (partS 32 bs) zb32 (stepD bs 3 (headD bs)).2).2.pl = [] := List.drop_eq_nil_of_le (by
    have : (rd (partS 32 bs) zb32 (stepD bs 3 (headD bs)).2).2.pl = bs.length := hpl
    omega)
  have hall : bs.drop 0 = encS (stepD bs 4 (headD bs)).1 := by
    rw [b0, b1, b2]
    show _ ++ (_ ++ (_ ++ (_ ++ bs.drop (headD bs).2.pl))) = _
    rw [c0]
    show _ ++ (_ ++ (_ ++ (_ ++ (_ ++ bs.drop (stepD bs 1 (headD bs)).2.pl)))) = _
    rw [c1]
    show _ ++ (_ ++ (_ ++ (_ ++ (_ ++ (_ ++ bs.drop (stepD bs 2 (headD bs)).2.pl))))) = _
    rw [c2]
    show _ ++ (_ ++ (_ ++ (_ ++ (_ ++ (_ ++ (_ ++ bs.drop (stepD bs 3 (headD bs)).2.pl)))))) = _
    rw [c3, hend, List.append_nil]
    unfold encS
    simp only [List.append_assoc]
    rfl
  exact hall.symm
end Go.Proofs.YtninaabbojcdpaaGreat.A

namespace Go.Proofs.YtninaabbojcdpaaGreat.A
open Go Go.Vm
set_option maxRecDepth 10000
set_option linter.unusedVariables false
structure Places (bs : List UInt8) (x : Hd) (p0 p1 p2 p3 p4 p5 p6 : Nat) : Prop where
  r0 : bytesS bs 32 0 = .ok (x.chain, p0)
  r1 : numS bs p0 = .ok (x.height.toNat, p1)
  r2 : numS bs p1 = .ok (x.time.toNat, p2)
  r3 : partS 32 bs p2 = .ok (x.prev, p3)
  r4 : partS 32 bs p3 = .ok (x.vals, p4)
  r5 : partS 32 bs p4 = .ok (x.next, p5)
  r6 : partS 32 bs p5 = .ok (x.app, p6)
theorem places {x : Hd} (hx : x.ok) (hc : checkS x = 0) (m : List UInt8) : ∃ p0 p1 p2 p3 p4 p5, Places (encS x ++ m) x p0 p1 p2 p3 p4 p5 (encS x).length := by
  obtain ⟨c1, c2, c3⟩ := checkS_ok hc
  obtain ⟨d1, d2, d3⟩ := nameS_len c1
  refine ⟨(numF x.chain.length ++ x.chain).length, (numF x.chain.length ++ x.chain ++ numF x.height.toNat).length, (numF x.chain.length ++ x.chain ++ numF x.height.toNat ++ numF x.time.toNat).length,
    (numF x.chain.length ++ x.chain ++ numF x.height.toNat ++ numF x.time.toNat ++ x.prev).length, (numF x.chain.length ++ x.chain ++ numF x.height.toNat ++ numF x.time.toNat ++ x.prev ++ x.vals).length,
    (numF x.chain.length ++ x.chain ++ numF x.height.toNat ++ numF x.time.toNat ++ x.prev ++ x.vals ++ x.next).length, ?_, ?_, ?_, ?_, ?_, ?_, ?_⟩
  · have := bytesS_back (a := []) (b := numF x.height.toNat ++ numF x.time.toNat ++ x.prev ++ x.vals ++ x.next ++ x.app ++ m) (l := x.chain) (most := 32) d2 (by omega)
    simp only [encS, List.append_assoc, List.nil_append, List.length_nil, Nat.zero_add, List.length_append] at this ⊢
    exact this
  · have := numS_back (a := numF x.chain.length ++ x.chain) (b := numF x.time.toNat ++ x.prev ++ x.vals ++ x.next ++ x.app ++ m) (n := x.height.toNat) (by omega)
    simp only [encS, List.append_assoc, List.length_append, Nat.add_assoc] at this ⊢
    exact this
  · have := numS_back (a := numF x.chain.length ++ x.chain ++ numF x.height.toNat) (b := x.prev ++ x.vals ++ x.next ++ x.app ++ m) (n := x.time.toNat) (by omega)
    simp only [encS, List.append_assoc, List.length_append, Nat.add_assoc] at this ⊢
    exact this
  · have := partS_back (a := numF x.chain.length ++ x.chain ++ numF x.height.toNat ++ numF x.time.toNat) (b := x.vals ++ x.next ++ x.app ++ m) (l := x.prev) hx.prev
    simp only [encS, List.append_assoc, List.length_append, Nat.add_assoc, hx.prev] at this ⊢
    exact this
  · have := partS_back (a := numF x.chain.length ++ x.chain ++ numF x.height.toNat ++ numF x.time.toNat ++ x.prev) (b := x.next ++ x.app ++ m) (l := x.vals) hx.vals
    simp only [encS, List.append_assoc, List.length_append, Nat.add_assoc, hx.vals] at this ⊢
    exact this
  · have := partS_back (a := numF x.chain.length ++ x.chain ++ numF x.height.toNat ++ numF x.time.toNat ++ x.prev ++ x.vals) (b := x.app ++ m) (l := x.next) hx.next
    simp only [encS, List.append_assoc, List.length_append, Nat.add_assoc, hx.next] at this ⊢
    exact this
  · have := partS_back (a := numF x.chain.length ++ x.chain ++ numF x.height.toNat ++ numF x.time.toNat ++ x.prev ++ x.vals ++ x.next) (b := m) (l := x.app) hx.app
    simp only [encS, List.append_assoc, List.length_append, Nat.add_assoc, hx.app] at this ⊢
    exact this
theorem Places.read {bs : List UInt8} {x : Hd} {p0 p1 p2 p3 p4 p5 p6 : Nat} (hp : Places bs x p0 p1 p2 p3 p4 p5 p6) (h1 : 0 ≤ x.height) (h2 : 0 ≤ x.time) : stepD bs 4 (headD bs) = (x, ⟨p6, 0, 0⟩) := by
  have e0 : rd (bytesS bs 32) [] ⟨0, 0, 0⟩ = (x.chain, ⟨p0, 0, 0⟩) := rd_step hp.r0
  have e1 : rd (numS bs) 0 ⟨p0, 0, 0⟩ = (x.height.toNat, ⟨p1, 0, 0⟩) := rd_step hp.r1
  have e2 : rd (numS bs) 0 ⟨p1, 0, 0⟩ = (x.time.toNat, ⟨p2, 0, 0⟩) := rd_step hp.r2
  have e3 : rd (partS 32 bs) zb32 ⟨p2, 0, 0⟩ = (x.prev, ⟨p3, 0, 0⟩) := rd_step hp.r3
  have e4 : rd (partS 32 bs) zb32 ⟨p3, 0, 0⟩ = (x.vals, ⟨p4, 0, 0⟩) := rd_step hp.r4
  have e5 : rd (partS 32 bs) zb32 ⟨p4, 0, 0⟩ = (x.next, ⟨p5, 0, 0⟩) := rd_step hp.r5
  have e6 : rd (partS 32 bs) zb32 ⟨p5, 0, 0⟩ = (x.app, ⟨p6, 0, 0⟩) := rd_step hp.r6
  have hh : headD bs = (⟨x.chain, x.height, x.time, zb32, zb32, zb32, zb32⟩, ⟨p2, 0, 0⟩) := by
    unfold headD
    simp only [e0, e1, e2]
    rw [Int.toNat_of_nonneg h1, Int.toNat_of_nonneg h2]
  rw [hh]
  simp only [stepD, e3, e4, e5, e6, setH]
theorem decS_back {x : Hd} (hx : x.ok) (hc : checkS x = 0) : decS (encS x) = (x, (0, 0)) := by
  obtain ⟨c1, c2, c3⟩ := checkS_ok hc
  obtain ⟨p0, p1, p2, p3, p4, p5, hp⟩ := places hx hc []
  rw [List.append_nil] at hp
  have hr := hp.read (by omega) (by omega)
  have hf : faultS (encS x) = (0, 0) := by
    unfold faultS endS
    rw [hr, if_neg (by simp)]
  have hg : gaultS (encS x) = (0, 0) := by
    unfold gaultS
    rw [if_pos hf, hr, hc]
  rw [decS_eq, if_pos hg, hr]
end Go.Proofs.YtninaabbojcdpaaGreat.A

namespace Go.Proofs.YtninaabbojcdpaaGreat.A
open Go Go.Vm
set_option maxRecDepth 10000
set_option linter.unusedVariables false
theorem bodyV_append (l m : List Val) : bodyV (l ++ m) = bodyV l ++ bodyV m := by simp [bodyV]
theorem of_key {l : List UInt8} (h : l.length = 4) (p : Int) : (Val.of l p).key = l := by
  obtain ⟨a, b, c, d, rfl⟩ := four h
  rfl
theorem stepV_st (bs : List UInt8) {y : List Val × RSt} (hy : y.2.ok bs) : ∀ k, (stepV bs k y).2.ok bs
  | 0 => hy
  | k + 1 => rd_st numS_ends (rd_st partS_ends (stepV_st bs hy k))
def startV (bs : List UInt8) : List Val × RSt := ([], (rd (numS bs) 0 ⟨0, 0, 0⟩).2)
def manyV (bs : List UInt8) : Nat := (rd (numS bs) 0 ⟨0, 0, 0⟩).1
def faultV (bs : List UInt8) : Int × Int := endS bs (stepV bs (manyV bs) (startV bs)).2
def gaultV (bs : List UInt8) : Int × Int := if faultV bs = (0, 0) then (checkV (stepV bs (manyV bs) (startV bs)).1, 0) else faultV bs
theorem decV_eq (bs : List UInt8) : decV bs = if 64 < manyV bs then ([], (4, 0)) else if gaultV bs = (0, 0) then ((stepV bs (manyV bs) (startV bs)).1, (0, 0)) else ([], gaultV bs) := rfl
theorem startV_st (bs : List UInt8) : (startV bs).2.ok bs := rd_st numS_ends (st0_ok bs)
theorem gaultV_zero {bs : List UInt8} (h : (gaultV bs).1 = 0) : gaultV bs = (0, 0) := by
  unfold gaultV at h ⊢
  split at h
  · rename_i hc
    rw [if_pos hc]
    have h : checkV (stepV bs (manyV bs) (startV bs)).1 = 0 := h
    rw [h]
  · rename_i hc
    exact absurd (endS_zero (stepV_st bs (startV_st bs) _) h) hc
theorem stepV_form {bs : List UInt8} {st : RSt} : ∀ k, (stepV bs k ([], st)).2.e = 0 → st.e = 0 ∧ bs.drop st.pl = bodyV (stepV bs k ([], st)).1 ++ bs.drop (stepV bs k ([], st)).2.pl
  | 0, h => ⟨h, rfl⟩
  | k + 1, h => by
    have h : (rd (numS bs) 0 (rd (partS 4 bs) zb4 (stepV bs k ([], st)).2).2).2.e = 0 := h
    obtain ⟨h1, h2⟩ := rd_good numS_ends h
    obtain ⟨h3, h4⟩ := rd_good partS_ends h1
    obtain ⟨h5, h6⟩ := stepV_form k h3
    have f1 := numS_form h2
    obtain ⟨l1, f2, _⟩ := partS_form h4
    refine ⟨h5, ?_⟩
    show _ = bodyV ((stepV bs k ([], st)).1 ++ [Val.of (rd (partS 4 bs) zb4 (stepV bs k ([], st)).2).1 ((rd (numS bs) 0 (rd (partS 4 bs) zb4 (stepV bs k ([], st)).2).2).1 : Nat)]) ++ bs.drop (rd (numS bs) 0 (rd (partS 4 bs) zb4 (stepV bs k ([], st)).2).2).2.pl
    rw [h6, f2, f1, bodyV_append]
    simp only [bodyV, List.flatMap_cons, List.flatMap_nil, List.append_nil, List.append_assoc]
    rw [of_key l1]
    rfl
theorem decV_good {bs : List UInt8} (h : (decV bs).2.1 = 0) : checkV (decV bs).1 = 0 ∧ encV (decV bs).1 = bs ∧ (decV bs).2 = (0, 0) := by
  rw [decV_eq] at h ⊢
  by_cases hm : 64 < manyV bs
  · rw [if_pos hm] at h; cases h
  · rw [if_neg hm] at h ⊢
    have hg : gaultV bs = (0, 0) := by
      by_cases hg : gaultV bs = (0, 0)
      · exact hg
      · rw [if_neg hg] at h; exact gaultV_zero h
    rw [if_pos hg]
    have hf : faultV bs = (0, 0) := by
      unfold gaultV at hg
      by_cases hf : faultV bs = (0, 0)
      · exact hf
      · rw [if_neg hf] at hg; exact hg
    have hc : checkV (stepV bs (manyV bs) (startV bs)).1 = 0 := by
      unfold gaultV at hg
      rw [if_pos hf] at hg
      injection hg
    refine ⟨hc, ?_, rfl⟩
    have he : (stepV bs (manyV bs) (startV bs)).2.e = 0 ∧ ¬ (stepV bs (manyV bs) (startV bs)).2.pl < bs.length := by
      unfold faultV endS at hf
      split at hf
      · injection hf with h1 _; cases h1
      · rename_i hn
        injection hf with h1 _
        exact ⟨h1, fun hl => hn ⟨h1, hl⟩⟩
    obtain ⟨e1, e2⟩ := stepV_form _ he.1
    obtain ⟨e3, e4⟩ := rd_good numS_ends e1
    have f1 := numS_form e4
    have hlen : (stepV bs (manyV bs) (startV bs)).1.length = manyV bs := by
      rw [stepV_len]; simp [startV]
    have hd : bs.drop (stepV bs (manyV bs) (startV bs)).2.pl = [] := List.drop_eq_nil_of_le (by omega)
    unfold encV
    rw [hlen]
    have e2 : bs.drop (startV bs).2.pl = bodyV (stepV bs (manyV bs) (startV bs)).1 ++ bs.drop (stepV bs (manyV bs) (startV bs)).2.pl := e2
    rw [hd, List.append_nil] at e2
    rw [← e2]
    have f1 : bs.drop 0 = numF (manyV bs) ++ bs.drop (startV bs).2.pl := f1
    rw [← f1]; rfl
theorem stepV_back {pre post : List UInt8} {l : List Val} (hr : ∀ v ∈ l, 1 ≤ v.p ∧ v.p ≤ 4611686018427387904) : ∀ k, k ≤ l.length →
    stepV (pre ++ (bodyV l ++ post)) k ([], ⟨pre.length, 0, 0⟩) = (l.take k, ⟨pre.length + (bodyV (l.take k)).length, 0, 0⟩)
  | 0, _ => by simp [stepV, bodyV]
  | k + 1, hk => by
    have ih := stepV_back (pre := pre) (post := post) hr k (by omega)
    have hlt : k < l.length := by omega
    have hp := hr _ (getD_mem hlt)
    have hb : pre ++ (bodyV l ++ post) = (pre ++ bodyV (l.take k)) ++ ((l.getD k zVal).key ++ (numF (l.getD k zVal).p.toNat ++ (bodyV (l.drop (k + 1)) ++ post))) := by
      have : l = l.take k ++ (l.getD k zVal :: l.drop (k + 1)) := by rw [← drop_getD hlt, List.take_append_drop]
      conv => lhs; rw [this]
      rw [bodyV_append]
      simp [bodyV]
    have p1 : partS 4 (pre ++ (bodyV l ++ post)) (pre.length + (bodyV (l.take k)).length) = .ok ((l.getD k zVal).key, pre.length + (bodyV (l.take k)).length + 4) := by
      rw [hb, ← List.length_append]
      exact partS_back rfl
    have p2 : numS (pre ++ (bodyV l ++ post)) (pre.length + (bodyV (l.take k)).length + 4) = .ok ((l.getD k zVal).p.toNat, pre.length + (bodyV (l.take k)).length + 4 + (numF (l.getD k zVal).p.toNat).length) := by
      rw [hb, ← List.append_assoc, show pre.length + (bodyV (l.take k)).length + 4 = (pre ++ bodyV (l.take k) ++ (l.getD k zVal).key).length from by simp [Nat.add_assoc]]
      exact numS_back (by omega)
    show ((stepV _ k _).1 ++ [Val.of (rd (partS 4 _) zb4 (stepV _ k _).2).1 ((rd (numS _) 0 (rd (partS 4 _) zb4 (stepV _ k _).2).2).1 : Nat)], (rd (numS _) 0 (rd (partS 4 _) zb4 (stepV _ k _).2).2).2) = _
    rw [ih]
    simp only
    rw [rd_step p1]
    simp only
    rw [rd_step p2]
    simp only
    have e1 : Val.of (l.getD k zVal).key ((l.getD k zVal).p.toNat : Nat) = l.getD k zVal := by
      have : (((l.getD k zVal).p.toNat : Nat) : Int) = (l.getD k zVal).p := by omega
      rw [this]
      rfl
    have e2 : l.take (k + 1) = l.take k ++ [l.getD k zVal] := by
      rw [List.take_succ_eq_append_getElem hlt]
      simp [List.getD, hlt]
    rw [e1, bodyV_take hlt, e2]
    simp only [List.length_append, List.length_cons, List.length_nil]
    congr 2
    omega
theorem decV_back {l : List Val} (hc : checkV l = 0) (m : List UInt8) : decV (encV l ++ m) = if m = [] then (l, (0, 0)) else ([], (4, ((encV l).length : Int))) := by
  obtain ⟨c1, c2, c3, c4⟩ := checkV_ok hc
  have hn : rd (numS (encV l ++ m)) 0 ⟨0, 0, 0⟩ = (l.length, ⟨(numF l.length).length, 0, 0⟩) := by
    have h0 := numS_back (a := []) (b := bodyV l ++ m) (n := l.length) (by omega)
    simp only [List.nil_append, List.length_nil, Nat.zero_add] at h0
    unfold encV
    rw [List.append_assoc]
    exact rd_step h0
  have hs : stepV (encV l ++ m) l.length ([], ⟨(numF l.length).length, 0, 0⟩) = (l, ⟨(encV l).length, 0, 0⟩) := by
    have := stepV_back (pre := numF l.length) (post := m) c4 l.length (Nat.le_refl _)
    rw [List.take_length] at this
    unfold encV
    rw [List.append_assoc, this, List.length_append]
  have hm : manyV (encV l ++ m) = l.length := by unfold manyV; rw [hn]
  have hst : startV (encV l ++ m) = ([], ⟨(numF l.length).length, 0, 0⟩) := by unfold startV; rw [hn]
  rw [decV_eq, hm, if_neg (by omega)]
  unfold gaultV faultV
  rw [hm, hst, hs]
  by_cases h0 : m = []
  · subst h0
    have hE : endS (encV l ++ []) ⟨(encV l).length, 0, 0⟩ = (0, 0) := by
      unfold endS
      rw [if_neg (by simp)]
    rw [hE, if_pos rfl, if_pos rfl]
    simp [hc]
  · have hp : 0 < m.length := List.length_pos_iff.2 h0
    have hE : endS (encV l ++ m) ⟨(encV l).length, 0, 0⟩ = (4, ((encV l).length : Int)) := by
      unfold endS
      rw [if_pos ⟨rfl, by rw [List.length_append]; simp only; omega⟩]
    rw [hE, if_neg h0]
    have hn : ((4 : Int), ((encV l).length : Int)) ≠ (0, 0) := fun h => by cases (Prod.mk.inj h).1
    rw [if_neg hn, if_neg hn]
end Go.Proofs.YtninaabbojcdpaaGreat.A

namespace Go.Proofs.YtninaabbojcdpaaGreat.A
open Go Go.Vm
set_option maxRecDepth 10000
set_option linter.unusedVariables false
def wordS (bs : List UInt8) (pl : Nat) : Except Int (Nat × Nat) := if bs.length < pl + 8 then .error 6 else .ok (bigN ((bs.drop pl).take 8), pl + 8)
theorem Word1_ok {h : Heap} {p a : Nat} {sv : Value} {bs : List UInt8} {pl : Nat} (hr : PR h p sv bs pl 0 0) [ha : HGet h a (.cells [.pointer (some ⟨p, 0, none⟩)] 0)] :
    Runs Tryz.prog T0 (.fn fn_zddQ) [.int .i64 pl, .pointer (some ⟨a, 0, none⟩)] h
      (fun r h' => ∃ n pl', wordS bs pl = .ok (n, pl') ∧ r = .int .u64 (n : Nat) ∧ PR h' p sv bs pl' 0 0 ∧ Fr (fun i => i = p) h h')
      (fun c h' => ∃ e pl', wordS bs pl = .error e ∧ e ≠ 0 ∧ c = thrown e pl ∧ PR h' p sv bs pl' 0 0 ∧ Fr (fun i => i = p) h h') := by
  have hsm := hr.small
  refine zddQ_runs ?_
  refine stp ?_
  refine O.callX (takeU64_ok (n := 8) (R := fun r h2 => r = .int .u64 (bigN ((bs.drop pl).take 8)) ∧ pl + 8 ≤ bs.length ∧ PR h2 p sv bs (pl + 8) 0 0 ∧ Fr (fun i => i = p) h h2) hr (by omega) (fun h1 v hf hp1 hle hbl hrd => ?_)) (fun r h1 hr1 => ?_) (fun c h1 hx => ?_)
  · have hl : ((bs.drop pl).take 8).length = 8 := by rw [List.length_take, List.length_drop]; omega
    refine (big_ok (l := (bs.drop pl).take 8) (by rw [hl]; exact hrd) (by omega)).imp fun r h2 hr2 => ?_
    obtain ⟨rfl, rfl⟩ := hr2
    exact ⟨rfl, hle, hp1, hf⟩
  · obtain ⟨rfl, hle, hp1, hf⟩ := hr1
    refine stp ?_
    exact ⟨_, pl + 8, by unfold wordS; rw [if_neg (by omega)], rfl, hp1, hf⟩
  · obtain ⟨hlt, rfl, rfl⟩ := hx
    refine stp ?_
    exact ⟨6, pl, by unfold wordS; rw [if_pos (by omega)], by omega, rfl, hr, Fr.refl⟩
theorem readsW_ok {h : Heap} {p : Nat} {sv : Value} {bs : List UInt8} {pl : Nat} {fid : FuncId} {first captured : List Value} {S : Nat → Except Int (Nat × Nat)} (hr : PR h p sv bs pl 0 0)
    (hm : Runs Tryz.prog T0 (.fn fid) (first ++ [.int .i64 pl] ++ captured) h (fun r h' => ∃ n pl', S pl = .ok (n, pl') ∧ r = .int .u64 (n : Nat) ∧ PR h' p sv bs pl' 0 0 ∧ Fr (fun i => i = p) h h')
      (fun c h' => ∃ e pl', S pl = .error e ∧ e ≠ 0 ∧ c = thrown e pl ∧ PR h' p sv bs pl' 0 0 ∧ Fr (fun i => i = p) h h')) :
    Runs Tryz.prog T0 (.fn fn_zwdQ) [.pointer (some ⟨p, 0, none⟩), .func (.func fid) ⟨first⟩ ⟨captured⟩] h (Reads h p sv bs (rd S 0 ⟨pl, 0, 0⟩) fun n r _ => r = .int .u64 (n : Nat)) (fun _ _ => False) := by
  haveI : HGet h p _ := ⟨hr.get⟩
  haveI : BLt p h := ⟨hr.lt⟩
  refine zwdQ_runs ?_
  refine stp ?_
  refine O.callX hm (fun r h1 hr1 => ?_) (fun c h1 hx => ?_)
  · obtain ⟨n, pl', hS, rfl, hp1, hf⟩ := hr1
    refine stp ?_
    refine caught_none.mono (fun u' h' hu => ?_) (fun _ _ _ hx => hx.elim)
    obtain ⟨rfl, rfl⟩ := hu
    exact L.nil (rd_ok hS hf rfl hp1)
  · obtain ⟨e, pl', hS, he, rfl, hp1, hf⟩ := hx
    refine stp ?_
    refine (caught_ok hp1).mono (fun u' h' hu => ?_) (fun _ _ _ hx => hx.elim)
    obtain ⟨hs, hp2, hf2⟩ := hu
    rw [hs]
    exact L.nil (rd_err hS he (hf.trans' hf2) rfl hp2)
theorem readsW_bad {h : Heap} {p : Nat} {sv : Value} {bs : List UInt8} {pl : Nat} {e fa : Int} {f : Value} (hr : PR h p sv bs pl e fa) (he : e ≠ 0) :
    Runs Tryz.prog T0 (.fn fn_zwdQ) [.pointer (some ⟨p, 0, none⟩), f] h (fun r h' => r = .int .u64 0 ∧ h' = h) (fun _ _ => False) := by
  haveI : HGet h p _ := ⟨hr.get⟩
  haveI : BLt p h := ⟨hr.lt⟩
  refine zwdQ_runs ?_
  refine stp ?_
  refine C.ifB (fun h1 => ?_) (fun h1 => ?_)
  · refine stp ?_
    exact ⟨rfl, rfl⟩
  · exfalso; simp at h1; exact he h1
theorem Word_run {h : Heap} {p : Nat} {sv : Value} {bs : List UInt8} {st : RSt} (hp : PRs h p sv bs st) :
    Runs Tryz.prog T0 (.fn fn_zcdQ) [.pointer (some ⟨p, 0, none⟩)] h (Reads h p sv bs (rd (wordS bs) 0 st) fun n r _ => r = .int .u64 (n : Nat)) (fun _ _ => False) := by
  obtain ⟨st1, e, fa⟩ := st
  obtain ⟨pl, h1, h2⟩ := hp.ex
  have hlt := h2.lt
  refine zcdQ_runs ?_
  refine stp ?_
  have hf0 : Fr (fun i => i = p) h (h.push (AObj.cells [Value.pointer (some ⟨p, 0, none⟩)] 0)) := Fr.refl.push
  by_cases he : e = 0
  · subst he
    obtain ⟨rfl, h3⟩ := h1 rfl
    have h3 : fa = 0 := h3
    subst h3
    refine O.call' (readsW_ok (S := wordS bs) (h2.none Fr.refl.push) (Word1_ok (h2.none Fr.refl.push))) (fun r h' hq => ?_)
    refine stp ?_
    exact ⟨hf0.trans' hq.1, hq.2.1, hq.2.2⟩
  · refine O.call' (readsW_bad (h2.none Fr.refl.push) he) (fun r h' hq => ?_)
    obtain ⟨rfl, rfl⟩ := hq
    refine stp ?_
    exact rd_bad he hf0 rfl (hp.none Fr.refl.push)
def restS (bs : List UInt8) (st : RSt) : Int := if st.e = 0 then (bs.length : Int) - st.pl else 0
theorem Rest_run {h : Heap} {p : Nat} {sv : Value} {bs : List UInt8} {st : RSt} (hp : PRs h p sv bs st) :
    Runs Tryz.prog T0 (.fn fn_zadQ) [.pointer (some ⟨p, 0, none⟩)] h (fun r h' => r = .int .i64 (restS bs st) ∧ h' = h) (fun _ _ => False) := by
  obtain ⟨pl, h1, hr⟩ := hp.ex
  have hsm := hr.small
  have hle := hr.at_le
  obtain ⟨a, cap, rfl, hlen, _⟩ := hr.own.rd
  haveI : HGet h p _ := ⟨hr.get⟩
  haveI : BLt p h := ⟨hr.lt⟩
  refine zadQ_runs ?_
  refine stp ?_
  refine C.ifN (fun he => ?_) (fun he => ?_)
  · refine stp ?_
    unfold restS
    rw [if_neg he]
    exact ⟨rfl, rfl⟩
  · refine stp ?_
    unfold restS
    rw [if_pos he, ← (h1 he).1]
    exact ⟨rfl, rfl⟩
end Go.Proofs.YtninaabbojcdpaaGreat.A

namespace Go.Proofs.YtninaabbojcdpaaGreat.A
open Go Go.Vm
set_option maxRecDepth 10000
set_option linter.unusedVariables false
structure Vote where
  at' : Int
  sig : Nat
abbrev Vote.cells (v : Vote) : List Value := [.int .i64 v.at', .int .u64 v.sig]
abbrev zVote : Vote := ⟨0, 0⟩
def tcells (l : List Vote) : List Value := l.flatMap Vote.cells
theorem tcells_cons (v : Vote) (l : List Vote) : tcells (v :: l) = v.cells ++ tcells l := rfl
theorem tcells_append (l m : List Vote) : tcells (l ++ m) = tcells l ++ tcells m := by simp [tcells]
theorem tcells_at : ∀ {l : List Vote} {k : Nat}, k < l.length → ((tcells l).drop (k * 2)).take 2 = (l.getD k zVote).cells
  | v :: l, 0, _ => by rw [tcells_cons]; rfl
  | v :: l, k + 1, h => by
    have := tcells_at (l := l) (k := k) (by simpa using h)
    rw [tcells_cons, show (k + 1) * 2 = v.cells.length + k * 2 from by simp; omega, ← List.drop_drop, List.drop_left]
    exact this
theorem vote_cells {h : Heap} {b o n k : Nat} {l : List Vote} (hc : cellsAt h b o (n * 2) = some (tcells l)) (hn : l.length = n) (hk : k < n) : Cells h b (o + k * 2) 2 (l.getD k zVote).cells := ⟨by
  rw [cellsAt_sub hc (by omega), tcells_at (by omega)]⟩
def voteS (last : Int) (v : Vote) : Int := if v.at' < 0 ∨ 64 ≤ v.at' then 3 else if v.at' ≤ last then 9 else 0
def stepsC : Int → List Vote → Int
  | _, [] => 0
  | last, v :: l => if voteS last v = 0 then stepsC v.at' l else voteS last v
def checkC (ht : Int) (l : List Vote) : Int := if ht < 1 ∨ 1073741824 < ht then 3 else if 64 < l.length then 4 else stepsC (-1) l
def lastC (l : List Vote) (k : Nat) : Int := if k = 0 then -1 else (l.getD (k - 1) zVote).at'
theorem dropC {l : List Vote} {k : Nat} (hk : k < l.length) : l.drop k = l.getD k zVote :: l.drop (k + 1) := by
  rw [List.drop_eq_getElem_cons hk]
  simp [List.getD, hk]
theorem stepsC_at {l : List Vote} {k : Nat} (hk : k < l.length) : stepsC (lastC l k) (l.drop k) = if voteS (lastC l k) (l.getD k zVote) = 0 then stepsC (lastC l (k + 1)) (l.drop (k + 1)) else voteS (lastC l k) (l.getD k zVote) := by
  rw [dropC hk]
  rfl
theorem rises1_ok {h : Heap} {a : Nat} {v : Vote} {last : Int} (hg : h.get a = .cells [.int .i64 last] 0) (ha : a < h.n) :
    Runs Tryz.prog T0 (.fn fn_zrQ) [.agg ⟨v.cells⟩, .pointer (some ⟨a, 0, none⟩)] h
      (fun r h' => r = .int .i64 (voteS last v) ∧ (voteS last v = 0 → h'.get a = .cells [.int .i64 v.at'] 0) ∧ Fr (fun i => i = a) h h') (fun _ _ => False) := by
  haveI : HGet h a _ := ⟨hg⟩
  haveI : BLt a h := ⟨ha⟩
  refine zrQ_runs ?_
  refine stpP ?_
  unfold voteS
  refine O.dec (fun h0 => ?_) (fun h0 => ?_)
  · refine stpP ?_
    rw [if_pos (show v.at' < 0 ∨ 64 ≤ v.at' from .inl h0)]
    exact ⟨rfl, fun h => absurd h (by decide), Fr.refl.push⟩
  · refine stpP ?_
    refine C.if (fun h1 => ?_) (fun h1 => ?_)
    · refine stpP ?_
      rw [if_pos (show v.at' < 0 ∨ 64 ≤ v.at' from .inr h1)]
      exact ⟨rfl, fun h => absurd h (by decide), Fr.refl.push⟩
    · rw [if_neg (show ¬ (v.at' < 0 ∨ 64 ≤ v.at') by omega)]
      refine stpP ?_
      refine C.if (fun h2 => ?_) (fun h2 => ?_)
      · refine stpP ?_
        rw [if_pos h2]
        exact ⟨rfl, fun h => absurd h (by decide), Fr.refl.push⟩
      · refine stpP ?_
        rw [if_neg h2]
        exact ⟨rfl, fun _ => by rw [Heap.get_set, if_pos rfl], Fr.refl.push.set fun _ => rfl⟩
theorem rises_ok {h : Heap} : Runs Tryz.prog T0 (.fn fn_zqQ) [] h (fun r h' => r = .func (.func fn_zrQ) ⟨[]⟩ ⟨[.pointer (some ⟨h.n, 0, none⟩)]⟩ ∧ h' = h.push (.cells [.int .i64 (-1)] 0)) (fun _ _ => False) := by
  refine zqQ_runs (v := undef) ?_
  refine stpP ?_
  exact ⟨rfl, rfl⟩
theorem CCheck_ok {h : Heap} {ht : Int} {hs : List UInt8} {sv : Value} {l : List Vote} (hl : hs.length = 32) (hv : Rd h 2 sv (tcells l) l.length) :
    Runs Tryz.prog T0 (.fn fn_znQ) [.agg ⟨.int .i64 ht :: (bcells hs ++ [sv])⟩] h (fun r h' => r = .int .i64 (checkC ht l) ∧ Fr (fun _ => False) h h') (fun _ _ => False) := by
  obtain ⟨a, cap, rfl, hlen, hc⟩ := hv
  haveI := l32 hl
  refine znQ_runs ?_
  refine stpP ?_
  unfold checkC
  refine O.dec (fun h0 => ?_) (fun h0 => ?_)
  · refine stpP ?_
    rw [if_pos (show ht < 1 ∨ 1073741824 < ht from .inl h0)]
    exact ⟨rfl, Fr.refl.push⟩
  refine stpP ?_
  refine C.if (fun h1 => ?_) (fun h1 => ?_)
  · refine stpP ?_
    rw [if_pos (show ht < 1 ∨ 1073741824 < ht from .inr h1)]
    exact ⟨rfl, Fr.refl.push⟩
  rw [if_neg (show ¬ (ht < 1 ∨ 1073741824 < ht) by omega)]
  refine stpP ?_
  refine C.if (fun h2 => ?_) (fun h2 => ?_)
  · refine stpP ?_
    rw [if_pos (by omega)]
    exact ⟨rfl, Fr.refl.push⟩
  rw [if_neg (by omega)]
  refine stpP ?_
  refine O.call' rises_ok (fun r h3 hr => ?_)
  obtain ⟨rfl, rfl⟩ := hr
  refine stpP ?_
  refine znQ_l0_rule (fun m v25 h' => ∃ k : Nat, k ≤ l.length ∧ m = l.length - k ∧ v25 = .int .i64 k ∧ h'.get (h.n + 1) = .cells [.int .i64 (lastC l k)] 0 ∧ h.n + 1 < h'.n ∧ Fr (fun _ => False) h h' ∧ stepsC (-1) l = stepsC (lastC l k) (l.drop k)) ?_ l.length ⟨0, by omega, rfl, rfl, ?_, by simp, Fr.refl.push.push, rfl⟩
  · rintro m v25 h' x2 x5 x6 x26 x27 x28 x29 x30 x31 x32 x33 x34 x35 ⟨k, hk, rfl, rfl, hg, hn, hf, hst⟩
    refine stpP ?_
    refine C.if (fun hlt => ?_) (fun hge => ?_)
    · have hlt : k < l.length := by omega
      obtain ⟨b, o, sp, rfl, hb, hcc⟩ := hc (by omega)
      have hcc' : cellsAt h' b o (l.length * 2) = some (tcells l) := by rw [cellsAt_keep hf hb id]; exact hcc
      haveI := vote_cells hcc' rfl hlt
      refine stpP ?_
      refine O.call' (rises1_ok (v := l.getD k zVote) (last := lastC l k) (a := h.n + 1) (by rw [Heap.get_push, if_neg (by omega), hg]) (by simp; omega)) (fun r h2 hr => ?_)
      obtain ⟨rfl, hg2, hf2⟩ := hr
      have hn2 := hf2.n
      simp only [Heap.n_push] at hn2
      have hfh : Fr (fun _ => False) h h2 := Fr.trans (S := fun _ => False) hf (Fr.trans (S := fun i => i = h.n + 1) Fr.refl.push hf2 fun i _ hi => hi) fun i hi ho => by omega
      refine stpP ?_
      refine C.ifN (fun he => ?_) (fun he => ?_)
      · refine stpP ?_
        rw [hst, stepsC_at hlt, if_neg he]
        exact ⟨rfl, hfh⟩
      · refine stpP ?_
        refine znQ_l0_again (l.length - (k + 1)) (by omega) ⟨k + 1, by omega, rfl, rfl, by rw [hg2 he]; rfl, by omega, hfh, ?_⟩
        rw [hst, stepsC_at hlt, if_pos he]
    · obtain rfl : k = l.length := by omega
      refine stpP ?_
      rw [hst, List.drop_length]
      exact ⟨rfl, hf⟩
  · rw [Heap.get_push, if_pos (by simp)]
    rfl
end Go.Proofs.YtninaabbojcdpaaGreat.A

namespace Go.Proofs.YtninaabbojcdpaaGreat.A
open Go Go.Vm
set_option maxRecDepth 10000
set_option linter.unusedVariables false
structure Cm where
  height : Int
  hash : List UInt8
  votes : List Vote
abbrev Cm.cells (x : Cm) (sv : Value) : List Value := .int .i64 x.height :: (bcells x.hash ++ [sv])
abbrev zCm : Cm := ⟨0, zb32, []⟩
def stepW (bs : List UInt8) : Nat → List Vote × RSt → List Vote × RSt
  | 0, y => y
  | k + 1, y =>
    let a := rd (numS bs) 0 (stepW bs k y).2
    let b := rd (wordS bs) 0 a.2
    ((stepW bs k y).1 ++ [⟨(a.1 : Nat), b.1⟩], b.2)
def decC (bs : List UInt8) : Cm × Int × Int :=
  let a := rd (numS bs) 0 ⟨0, 0, 0⟩
  let b := rd (partS 32 bs) zb32 a.2
  let n := rd (numS bs) 0 b.2
  if 64 < n.1 then (zCm, (4, (bs.length : Int) - restS bs b.2)) else
    let y := stepW bs n.1 ([], n.2)
    let f := endS bs y.2
    let g := if f = (0, 0) then (checkC (a.1 : Nat) y.1, 0) else f
    if g = (0, 0) then (⟨(a.1 : Nat), b.1, y.1⟩, (0, 0)) else (zCm, g)
theorem stepW_len (bs : List UInt8) (y : List Vote × RSt) : ∀ k, (stepW bs k y).1.length = y.1.length + k
  | 0 => rfl
  | k + 1 => by
    show ((stepW bs k y).1 ++ [_]).length = _
    rw [List.length_append, stepW_len bs y k]
    simp
    omega
theorem decC_ok (bs : List UInt8) : (decC bs).1.hash.length = 32 ∧ (decC bs).1.votes.length ≤ 64 := by
  unfold decC
  simp only
  split
  · exact ⟨rfl, by simp⟩
  · rename_i hn
    have key : ∀ g : Int × Int, (if g = (0, 0) then ((⟨((rd (numS bs) 0 ⟨0, 0, 0⟩).1 : Nat), (rd (partS 32 bs) zb32 (rd (numS bs) 0 ⟨0, 0, 0⟩).2).1, (stepW bs (rd (numS bs) 0 (rd (partS 32 bs) zb32 (rd (numS bs) 0 ⟨0, 0, 0⟩).2).2).1 ([], (rd (numS bs) 0 (rd (partS 32 bs) zb32 (rd (numS bs) 0 ⟨0, 0, 0⟩).2).2).2)).1⟩ : Cm), ((0 : Int), (0 : Int))) else (zCm, g)).1.hash.length = 32 ∧ (if g = (0, 0) then ((⟨((rd (numS bs) 0 ⟨0, 0, 0⟩).1 : Nat), (rd (partS 32 bs) zb32 (rd (numS bs) 0 ⟨0, 0, 0⟩).2).1, (stepW bs (rd (numS bs) 0 (rd (partS 32 bs) zb32 (rd (numS bs) 0 ⟨0, 0, 0⟩).2).2).1 ([], (rd (numS bs) 0 (rd (partS 32 bs) zb32 (rd (numS bs) 0 ⟨0, 0, 0⟩).2).2).2)).1⟩ : Cm), ((0 : Int), (0 : Int))) else (zCm, g)).1.votes.length ≤ 64 := fun g => by
      split
      · exact ⟨rd_part_len, by simp only; rw [stepW_len]; simp; omega⟩
      · exact ⟨rfl, by simp⟩
    exact key _
theorem one_vote {h : Heap} {c : List Value} {es : Nat} (hc : c.length = 2) : newCells (h.push (.cells c es)) 2 [.int .i64 0, .int .u64 0] false (.slice (some ⟨h.n, 0, none⟩) 1 1) = some (1, c) :=
  (Rd.mk (size := 2) (n := 1) (cap := 1) (sp := none) (o := 0) (b := h.n) (c := c) (by simp) (by rw [cellsAt_of (c := c) (by rw [Heap.get_push, if_pos rfl]; rfl) (by omega), List.drop_zero, List.take_of_length_le (by omega)])).new _
set_option maxHeartbeats 4000000 in
theorem CDecode_ok {h : Heap} {v : Value} {bs : List UInt8} (hv : Rd h 1 v (bcells bs) bs.length) (hs : bs.length < 1048576) : Runs Tryz.prog T0 (.fn fn_zoQ) [v] h
    (fun r h' => ∃ sl, r = .tuple ⟨[.agg ⟨(decC bs).1.cells sl⟩, .agg ⟨[.int .i64 (decC bs).2.1, .int .i64 (decC bs).2.2]⟩]⟩ ∧ Own h' 2 sl (tcells (decC bs).1.votes) (decC bs).1.votes.length ∧ (∀ i, ownedBy sl i → h.n ≤ i) ∧ Fr (fun _ => False) h h') (fun _ _ => False) := by
  have hv' := hv
  obtain ⟨a0, cap0, rfl, hl0, _⟩ := hv
  refine zoQ_runs ?_
  refine stpP ?_
  generalize hh0 : ((h.push (.cells (.int .i64 0 :: (z32 ++ [.slice none 0 0])) 0)).push (.cells [.int .i64 0, .int .i64 0] 0)) = h0
  have hf0 : Fr (fun _ => False) h h0 := by rw [← hh0]; exact Fr.refl.push.push
  have hn0 : h0.n = h.n + 2 := by rw [← hh0]; rfl
  have hA0 : HGet h0 h.n (.cells (.int .i64 0 :: (z32 ++ [.slice none 0 0])) 0) := by rw [← hh0]; exact HGet.push (k := BLt.new) (g := HGet.new)
  generalize hb3 : (h.push (.cells (.int .i64 0 :: (z32 ++ [.slice none 0 0])) 0)).n = b3
  have hb3' : b3 = h.n + 1 := by rw [← hb3]; rfl
  have hB0 : HGet h0 b3 (.cells [.int .i64 0, .int .i64 0] 0) := by rw [← hh0, ← hb3]; exact HGet.new
  clear hh0 hb3
  refine O.call' (NewReader_ok (hv'.keep hf0 fun _ _ => id) hs) (fun r h1 hr => ?_)
  obtain ⟨p, sv, rfl, hp1, hsv, hr1, hf1⟩ := hr
  have hlt1 := hr1.lt
  have hn1 := hf1.n
  haveI hA1 : HGet h1 h.n _ := hf1.keep hA0 (by omega) id
  haveI hB1 : HGet h1 b3 _ := hf1.keep hB0 (by omega) id
  refine stpP ?_
  have hown1 : ∀ i, ownedBy sv i → h0.n ≤ i ∧ i < h1.n := fun i hi => ⟨hsv i hi, hr1.own_lt hi⟩
  have k1 := Num_run hr1
  have hdec : decC bs = (if 64 < (rd (numS bs) 0 (rd (partS 32 bs) zb32 (rd (numS bs) 0 ⟨0, 0, 0⟩).2).2).1 then (zCm, (4, (bs.length : Int) - restS bs (rd (partS 32 bs) zb32 (rd (numS bs) 0 ⟨0, 0, 0⟩).2).2)) else
    let y := stepW bs (rd (numS bs) 0 (rd (partS 32 bs) zb32 (rd (numS bs) 0 ⟨0, 0, 0⟩).2).2).1 ([], (rd (numS bs) 0 (rd (partS 32 bs) zb32 (rd (numS bs) 0 ⟨0, 0, 0⟩).2).2).2)
    let f := endS bs y.2
    let g := if f = (0, 0) then (checkC ((rd (numS bs) 0 ⟨0, 0, 0⟩).1 : Nat) y.1, 0) else f
    if g = (0, 0) then (⟨((rd (numS bs) 0 ⟨0, 0, 0⟩).1 : Nat), (rd (partS 32 bs) zb32 (rd (numS bs) 0 ⟨0, 0, 0⟩).2).1, y.1⟩, (0, 0)) else (zCm, g)) := rfl
  rw [hdec]
  clear hdec
  generalize rd (numS bs) 0 ⟨0, 0, 0⟩ = a at *
  obtain ⟨a, st1⟩ := a
  refine O.call' k1 (fun r h2 hr => ?_)
  obtain ⟨hf2, rfl, hr2⟩ := hr
  simp only at hr2 ⊢
  have hn2 := hf2.n
  haveI hA2 : HGet h2 h.n _ := hf2.keep hA1 (by omega) (by omega)
  have hB2 : HGet h2 b3 _ := hf2.keep hB1 (by omega) (by omega)
  refine stpP ?_
  have hset : ∀ {hh : Heap} {c : List Value} {st : RSt}, PRs hh p sv bs st → PRs (hh.set h.n (.cells c 0)) p sv bs st := fun hr => hr.keep (S := fun j => j = h.n) (Fr.refl.set fun _ => rfl) (by omega) fun i hi hn => by have := (hown1 i hi).1; omega
  have k2 := Hash_run (hset (c := .int .i64 (a : Nat) :: (z32 ++ [.slice none 0 0])) hr2)
  generalize rd (partS 32 bs) zb32 st1 = b at *
  obtain ⟨hs32, st2⟩ := b
  refine O.call' k2 (fun r h3 hr => ?_)
  obtain ⟨hf3, ⟨rfl, hl3⟩, hr3⟩ := hr
  simp only at hr3 hl3 ⊢
  haveI := l32 hl3
  have hn3 := hf3.n
  simp only [Heap.n_set] at hn3
  have hf23 : Fr (fun i => i = p ∨ i = h.n) h2 h3 := (Fr.refl.set fun _ => .inr rfl).trans' (hf3.mono fun _ _ h => .inl h)
  haveI hA3 : HGet h3 h.n _ := hf3.keep (b := h.n) .same (by simp; omega) (by omega)
  have hB3 : HGet h3 b3 _ := hf23.keep hB2 (by omega) (by omega)
  refine stpP ?_
  have k3 := Rest_run (hset (c := .int .i64 (a : Nat) :: (bcells hs32 ++ [.slice none 0 0])) hr3)
  have hrest : 0 ≤ (bs.length : Int) - restS bs st2 ∧ (bs.length : Int) - restS bs st2 ≤ bs.length := by
    unfold restS
    by_cases he : st2.e = 0
    · have := hr3.le he
      rw [if_pos he]; omega
    · rw [if_neg he]; omega
  generalize restS bs st2 = rest at *
  refine O.call' k3 (fun r h4 hr => ?_)
  obtain ⟨rfl, rfl⟩ := hr
  refine stpP ?_
  have k4 := Num_run (hset (c := .int .i64 (a : Nat) :: (bcells hs32 ++ [.slice none 0 0])) hr3)
  generalize rd (numS bs) 0 st2 = n at *
  obtain ⟨n, st3⟩ := n
  refine O.call' k4 (fun r h4 hr => ?_)
  obtain ⟨hf4, rfl, hr4⟩ := hr
  simp only at hr4 ⊢
  have hn4 := hf4.n
  simp only [Heap.n_set] at hn4
  have hf34 : Fr (fun i => i = p ∨ i = h.n) h3 h4 := (Fr.refl.set fun _ => .inr rfl).trans' (hf4.mono fun _ _ h => .inl h)
  haveI hA4 : HGet h4 h.n _ := hf4.keep (b := h.n) .same (by simp; omega) (by omega)
  haveI hB4 : HGet h4 b3 _ := hf34.keep hB3 (by omega) (by omega)
  haveI : BLt h.n h4 := ⟨by omega⟩
  haveI : BLt b3 h4 := ⟨by omega⟩
  haveI : BNe h.n b3 := ⟨by omega⟩
  haveI : BNe b3 h.n := ⟨by omega⟩
  have hfh4 : Fr (fun _ => False) h h4 := Fr.trans (S := fun _ => False) (hf0.trans' hf1) ((hf2.mono fun _ _ h => .inl h).trans' (hf23.trans' hf34)) fun i hi ho => by omega
  refine stpP ?_
  refine C.if (fun hbig => ?_) (fun hsm => ?_)
  · refine stpP ?_
    rw [if_pos (by omega)]
    exact ⟨_, rfl, .none, fun i hi => hi.elim, Fr.set (Fr.set hfh4 fun hlt => by omega) fun hlt => by omega⟩
  rw [if_neg (by omega)]
  refine stpP ?_
  refine zoQ_l0_rule (fun m v29 h' => ∃ k : Nat, k ≤ n ∧ m = n - k ∧ v29 = .int .i64 k ∧ (∃ sl, h'.get h.n = .cells (.int .i64 (a : Nat) :: (bcells hs32 ++ [sl])) 0 ∧ Own h' 2 sl (tcells (stepW bs k ([], st3)).1) k ∧ (∀ i, ownedBy sl i → h4.n ≤ i)) ∧ PRs h' p sv bs (stepW bs k ([], st3)).2 ∧ Fr (fun i => i = p ∨ i = h.n) h4 h') ?_ n ⟨0, by omega, rfl, rfl, ⟨_, hA4.eq, .none, fun i hi => hi.elim⟩, hr4, Fr.refl⟩
  rintro m v29 h5 x7 x30 x31 x32 x33 x34 x35 x36 x37 x38 x39 x40 x41 x42 x43 ⟨k, hk, rfl, rfl, ⟨sl, hg5, ho, hnew⟩, hr5, hf5⟩
  obtain ⟨asl, csl, rfl, _, _⟩ := ho.rd
  have hstep : stepW bs (k + 1) ([], st3) = ((stepW bs k ([], st3)).1 ++ [⟨((rd (numS bs) 0 (stepW bs k ([], st3)).2).1 : Nat), (rd (wordS bs) 0 (rd (numS bs) 0 (stepW bs k ([], st3)).2).2).1⟩], (rd (wordS bs) 0 (rd (numS bs) 0 (stepW bs k ([], st3)).2).2).2) := rfl
  have hlenk : (stepW bs k ([], st3)).1.length = k := by rw [stepW_len]; simp
  have hn45 := hf5.n
  refine stpP ?_
  refine C.if (fun hlt => ?_) (fun hge => ?_)
  · generalize stepW bs k ([], st3) = z at *
    obtain ⟨L, st⟩ := z
    simp only at ho hr5 hstep hlenk
    refine stpP ?_
    have k5 := Num_run hr5
    generalize rd (numS bs) 0 st = c at *
    obtain ⟨c, st5⟩ := c
    refine O.call' k5 (fun r h6 hq => ?_)
    obtain ⟨hf6, rfl, hr6⟩ := hq
    simp only at hr6 hstep
    have hn56 := hf6.n
    refine stpP ?_
    have k6 := Word_run (hr6.none (Fr.refl.push (o := .cells [.int .i64 (c : Nat), .int .u64 0] 0)))
    generalize rd (wordS bs) 0 st5 = d at *
    obtain ⟨d, st6⟩ := d
    refine O.call' k6 (fun r h7 hq => ?_)
    obtain ⟨hf7, rfl, hr7⟩ := hq
    simp only at hr7 hstep
    have hn67 := hf7.n
    simp only [Heap.n_push] at hn67
    have hp6 := hr6.lt
    haveI : HGet h7 h6.n _ := hf7.keep (b := h6.n) HGet.new (by simp) (by omega)
    have hf57 : Fr (fun i => i = p) h5 h7 := Fr.trans (S := fun i => i = p) hf6 (Fr.trans (S := fun i => i = p) Fr.refl.push hf7 fun _ _ h => h) fun _ _ h => h
    haveI hA7 : HGet h7 h.n _ := hf57.keep (b := h.n) ⟨hg5⟩ (by omega) (by omega)
    haveI : BLt h.n h7 := ⟨by omega⟩
    haveI : BLt h6.n h7 := ⟨by omega⟩
    haveI : BNe h6.n h.n := ⟨by omega⟩
    haveI : BNe h.n h6.n := ⟨by omega⟩
    refine stpP ?_
    have hol := fun {i : Nat} (hi : ownedBy (.slice asl k csl) i) => ho.lt hi
    have ho7 : Own h7 2 (.slice asl k csl) (tcells L) k := ho.keep hf57 fun i hi h => by have := hnew i hi; omega
    refine O.append ((ho7.keep (S := fun i => i = h6.n) (Fr.refl.set fun _ => rfl) fun i hi h => by have := hol hi; omega).keep (S := fun _ => False) Fr.refl.push fun _ _ => id) (one_vote rfl) rfl rfl (by omega) (by omega) (by omega) (fun v8 h8 ho8 hf8 hn8 => ?_)
    have hf78 : Fr (fun i => i = h6.n ∨ ownedBy (.slice asl k csl) i) h7 h8 := Fr.trans (S := fun i => i = h6.n ∨ ownedBy (.slice asl k csl) i) (Fr.refl.set fun _ => .inl rfl).push hf8 fun i _ hi => .inr hi
    have hn78 := hf78.n
    have hnsl : ¬ ownedBy (.slice asl k csl) h.n := fun h => by have := hnew _ h; omega
    haveI hA8 : HGet h8 h.n _ := hf78.keep hA7 (by omega) (fun h => by
      rcases h with h | h
      · omega
      · exact hnsl h)
    haveI : BLt h.n h8 := ⟨by omega⟩
    obtain ⟨a8, c8, rfl, _, _⟩ := ho8.rd
    have hnew8 : ∀ i, ownedBy (.slice a8 (k + 1) c8) i → h4.n ≤ i := fun i hi => by
      rcases hn8 i hi with h9 | h9
      · exact hnew i h9
      · simp at h9; omega
    refine stpP ?_
    refine zoQ_l0_again (n - (k + 1)) (by omega) ⟨k + 1, by omega, rfl, rfl, ⟨_, by rw [Heap.get_set, if_pos rfl], ?_, hnew8⟩, ?_, ?_⟩
    · rw [hstep]
      simp only
      rw [tcells_append]
      exact ho8.keep (S := fun i => i = h.n) (Fr.refl.set fun _ => rfl) fun i hi h => by have := hnew8 i hi; omega
    · rw [hstep]
      refine hset (hr7.keep hf78 (fun h => ?_) fun i hi h => ?_)
      · rcases h with h | h
        · omega
        · have := hnew p h; omega
      · have := (hown1 i hi).2
        rcases h with h | h
        · omega
        · have := hnew i h; omega
    · refine Fr.set ?_ fun _ => .inr rfl
      refine Fr.trans (S := fun i => i = p ∨ i = h.n) hf5 (Fr.trans (S := fun i => i = p ∨ ownedBy (.slice asl k csl) i) (hf57.mono fun _ _ h => .inl h) hf78 fun i hi h => ?_) fun i hi h => ?_
      · rcases h with h | h
        · omega
        · exact .inr h
      · rcases h with h | h
        · exact .inl h
        · have := hnew i h; omega
  · obtain rfl : k = n := by omega
    have hp5 := hr5.lt
    haveI hA5 : HGet h5 h.n _ := ⟨hg5⟩
    have hB5 : HGet h5 b3 _ := hf5.keep hB4 (by omega) (by omega)
    haveI := hB5
    have hfh5 : Fr (fun _ => False) h h5 := Fr.trans (S := fun _ => False) hfh4 hf5 fun i hi ho => by omega
    generalize stepW bs k ([], st3) = z at *
    obtain ⟨L, st⟩ := z
    simp only at ho hr5 hlenk ⊢
    refine stpP ?_
    have k7 := End_run hr5
    generalize endS bs st = F at *
    obtain ⟨e, f⟩ := F
    refine O.call' k7 (fun r h6 hr => ?_)
    obtain ⟨rfl, hf6⟩ := hr
    have hn56 := hf6.n
    haveI hA6 : HGet h6 h.n _ := hf6.keep hA5 (by omega) id
    haveI hB6 : HGet h6 b3 _ := hf6.keep hB5 (by omega) id
    haveI : BLt h.n h6 := ⟨by omega⟩
    haveI : BLt b3 h6 := ⟨by omega⟩
    have hfh6 : Fr (fun _ => False) h h6 := hfh5.trans' hf6
    have ho6 : ∀ {b : Nat} {o : AObj}, b < h4.n → Own (h6.set b o) 2 (.slice asl k csl) (tcells L) k := fun {b o} hb => (ho.keep hf6 fun _ _ => id).keep (S := fun i => i = b) (Fr.refl.set fun _ => rfl) fun i hi h => by have := hnew i hi; omega
    refine stpP ?_
    rw [same_fault]
    refine C.if (fun hz => ?_) (fun hz => ?_)
    · obtain ⟨he, ha⟩ := Prod.mk.inj hz
      subst he ha
      refine stpP ?_
      refine O.call' (CCheck_ok (l := L) hl3 (by rw [hlenk]; exact (ho6 (by omega)).rd)) (fun r h7 hr => ?_)
      obtain ⟨rfl, hf7⟩ := hr
      have hn67 := hf7.n
      simp only [Heap.n_set] at hn67
      haveI : HGet h7 b3 _ := hf7.keep (b := b3) .same (by simp; omega) id
      haveI : HGet h7 h.n _ := hf7.keep (b := h.n) (HGet.set (k := ⟨by omega⟩) (g := hA6)) (by simp; omega) id
      haveI : BLt h.n h7 := ⟨by omega⟩
      haveI : BLt b3 h7 := ⟨by omega⟩
      have hfh7 : Fr (fun _ => False) h h7 := Fr.trans (S := fun _ => False) (Fr.set hfh6 fun hlt => by omega) hf7 fun _ _ h => h
      have ho7 : Own h7 2 (.slice asl k csl) (tcells L) k := (ho6 (by omega)).keep hf7 fun _ _ => id
      refine stpP ?_
      rw [same_fault]
      refine C.ifN (fun hc => ?_) (fun hc => ?_)
      · refine stpP ?_
        simp only [if_true]
        rw [if_neg hc]
        exact ⟨_, rfl, .none, fun i hi => hi.elim, Fr.set (Fr.set (Fr.set hfh7 fun hlt => by omega) fun hlt => by omega) fun hlt => by omega⟩
      · have h0 : checkC (a : Nat) L = 0 := by injection hc
        rw [h0]
        refine stpP ?_
        simp only [if_true]
        refine ⟨_, rfl, ?_, fun i hi => ?_, Fr.set (Fr.set (Fr.set hfh7 fun hlt => by omega) fun hlt => by omega) fun hlt => by omega⟩
        · rw [hlenk]
          exact ho7.keep (S := fun i => i = b3 ∨ i = h.n) (Fr.set (Fr.set (Fr.set Fr.refl fun _ => .inl rfl) fun _ => .inr rfl) fun _ => .inl rfl) fun i hi h => by have := hnew i hi; omega
        · have := hnew i hi
          omega
    · refine stpP ?_
      rw [same_fault]
      refine C.ifN (fun hc => ?_) (fun hc => absurd hc hz)
      refine stpP ?_
      simp only [if_neg hz]
      exact ⟨_, rfl, .none, fun i hi => hi.elim, Fr.set (Fr.set (Fr.set hfh6 fun hlt => by omega) fun hlt => by omega) fun hlt => by omega⟩
end Go.Proofs.YtninaabbojcdpaaGreat.A

namespace Go.Proofs.YtninaabbojcdpaaGreat.A
open Go Go.Vm
set_option maxRecDepth 10000
set_option linter.unusedVariables false
theorem RRs.le {h : Heap} {p : Nat} {sv : Value} {bs : List UInt8} {st : RSt} (hp : RRs h p sv bs st) (he : st.e = 0) : st.pl ≤ bs.length := let ⟨_, h1, h2⟩ := hp.ex; (h1 he).1 ▸ h2.at_le
end Go.Proofs.YtninaabbojcdpaaGreat.A

namespace Go.Proofs.YtninaabbojcdpaaGreat.A
open Go Go.Vm
set_option maxRecDepth 10000
set_option linter.unusedVariables false
def partB {α : Type} (dec : List UInt8 → α × Int × Int) (zero : α) (bs : List UInt8) (y : (Int × Int) × RSt) : α × (Int × Int) × RSt :=
  if y.1 = (0, 0) then
    let b := rd (bytesS bs 65536) [] y.2
    if b.2.e = 0 then
      let d := dec b.1
      if d.2 = (0, 0) then (d.1, (0, 0), b.2) else (zero, (5, (y.2.pl : Int)), b.2)
    else (zero, (b.2.e, b.2.fa), b.2)
  else (zero, y)
theorem partB_e {α : Type} {dec : List UInt8 → α × Int × Int} {zero : α} {bs : List UInt8} {y : (Int × Int) × RSt} (hy : y.1 = (0, 0) → y.2.e = 0) : (partB dec zero bs y).2.1 = (0, 0) → (partB dec zero bs y).2.2.e = 0 := by
  unfold partB
  split
  · simp only
    split
    · rename_i h
      split
      · exact fun _ => h
      · intro h2; cases h2
    · rename_i h
      intro h2
      exact absurd (Prod.mk.inj h2).1 h
  · rename_i h
    exact fun h2 => absurd h2 h
theorem rd_bytes_len {bs : List UInt8} {m : Nat} {st : RSt} : (rd (bytesS bs m) [] st).1.length ≤ bs.length := by
  unfold rd
  split
  · split
    · rename_i a pl h
      unfold bytesS at h
      split at h
      · cases h
      · split at h
        · cases h
        · split at h
          · cases h
          · cases h
            simp only [List.length_take, List.length_drop]
            omega
    · simp
  · simp
set_option maxHeartbeats 4000000 in
theorem partH_ok {h : Heap} {p q : Nat} {sv : Value} {bs : List UInt8} {st : RSt} {e a : Int} (hp : PRs h p sv bs st) (hq : h.get q = .cells [.int .i64 e, .int .i64 a] 0) (hqn : q < h.n) (hqp : q ≠ p) (hqs : ¬ ownedBy sv q) (hst : (e, a) = ((0, 0) : Int × Int) → st.e = 0) :
    Runs Tryz.prog T0 (.fn fn_zhQ) [.pointer (some ⟨p, 0, none⟩), .int .i64 bs.length, .pointer (some ⟨q, 0, none⟩), .func (.func fn_ztQ) ⟨[]⟩ ⟨[]⟩] h
      (fun r h' => r = .agg ⟨(partB decS zeroHd bs ((e, a), st)).1.cells⟩ ∧ h'.get q = .cells [.int .i64 (partB decS zeroHd bs ((e, a), st)).2.1.1, .int .i64 (partB decS zeroHd bs ((e, a), st)).2.1.2] 0 ∧ PRs h' p sv bs (partB decS zeroHd bs ((e, a), st)).2.2 ∧ Fr (fun i => i = p ∨ i = q) h h') (fun _ _ => False) := by
  have hpl := hp.lt
  have hown := fun {i : Nat} (hi : ownedBy sv i) => hp.own_lt hi
  haveI hQ : HGet h q _ := ⟨hq⟩
  haveI : BLt q h := ⟨hqn⟩
  refine zhQ_runs ?_
  refine stpP ?_
  rw [same_fault]
  refine C.ifN (fun hz => ?_) (fun hz => ?_)
  · refine stpP ?_
    unfold partB
    rw [if_neg hz]
    exact ⟨rfl, (HGet.push (k := ⟨hqn⟩) (g := hQ)).eq, hp.none Fr.refl.push, Fr.refl.push⟩
  obtain ⟨rfl, rfl⟩ := Prod.mk.inj hz
  have hse := hst rfl
  have hple := hp.le hse
  have hsm := hp.small
  refine stpP ?_
  generalize hh1 : h.push (.cells (.string ⟨⟨[]⟩⟩ :: .int .i64 0 :: .int .i64 0 :: (z32 ++ (z32 ++ (z32 ++ z32)))) 0) = h1
  have hf1 : Fr (fun _ => False) h h1 := by rw [← hh1]; exact Fr.refl.push
  have hp1 := hp.none hf1
  have hQ1 := hf1.keep hQ hqn id
  have hO1 : HGet h1 h.n (.cells (.string ⟨⟨[]⟩⟩ :: .int .i64 0 :: .int .i64 0 :: (z32 ++ (z32 ++ (z32 ++ z32)))) 0) := by rw [← hh1]; exact HGet.new
  have hn1' : h.n < h1.n := by rw [← hh1]; simp
  clear hh1
  refine O.call' (Rest_run hp1) (fun r h1' hr => ?_)
  obtain ⟨rfl, hh1'⟩ := hr
  obtain rfl := hh1'.symm
  have hrest : restS bs st = (bs.length : Int) - st.pl := by unfold restS; rw [if_pos hse]
  rw [hrest]
  refine stpP ?_
  have hat : (bs.length : Int) - ((bs.length : Int) - st.pl) = st.pl := by omega
  rw [hat]
  have k2 := Bytes_run (most := 65536) hp1 (by omega)
  have hpart : partB decS zeroHd bs ((0, 0), st) = (if (rd (bytesS bs 65536) [] st).2.e = 0 then (if (decS (rd (bytesS bs 65536) [] st).1).2 = (0, 0) then ((decS (rd (bytesS bs 65536) [] st).1).1, (0, 0), (rd (bytesS bs 65536) [] st).2) else (zeroHd, (5, (st.pl : Int)), (rd (bytesS bs 65536) [] st).2)) else (zeroHd, ((rd (bytesS bs 65536) [] st).2.e, (rd (bytesS bs 65536) [] st).2.fa), (rd (bytesS bs 65536) [] st).2)) := by unfold partB; rw [if_pos rfl]
  rw [hpart]
  clear hpart
  have hbl : (rd (bytesS bs 65536) [] st).1.length ≤ bs.length := rd_bytes_len
  generalize rd (bytesS bs 65536) [] st = b at *
  obtain ⟨l, st1⟩ := b
  refine O.call' k2 (fun r h2 hr => ?_)
  obtain ⟨hf2, ⟨ho, hnew⟩, hr2⟩ := hr
  simp only at ho hr2 hbl hnew ⊢
  have hn1 := hf1.n
  have hn2 := hf2.n
  have hQ2 := hf2.keep hQ1 (by omega) hqp
  have hO2 := hf2.keep hO1 hn1' (by omega)
  have hfa : st1.e = 0 → st1.fa = 0 := fun h0 => (let ⟨_, h1, _⟩ := hr2.ex; (h1 h0).2)
  have hle1 : st1.e = 0 → st1.pl ≤ bs.length := fun h0 => hr2.le h0
  refine stpP ?_
  refine O.call' (Rest_run hr2) (fun r h2' hr => ?_)
  obtain ⟨rfl, hh2⟩ := hr
  obtain rfl := hh2.symm
  refine stpP ?_
  have fin : ∀ {H : Heap}, Fr (fun i => i = q ∨ i = h.n) h2 H → PRs H p sv bs st1 ∧ Fr (fun i => i = p ∨ i = q) h H := fun hf => ⟨hr2.keep hf (by omega) fun i hi hs => by
    have := hown hi
    rcases hs with h | h
    · exact hqs (h ▸ hi)
    · omega, Fr.trans (S := fun i => i = p ∨ i = q) (hf1.mono fun _ _ h => h.elim) (Fr.trans (S := fun i => i = p ∨ i = q ∨ i = h.n) (hf2.mono fun _ _ h => .inl h) hf fun i _ h => .inr h) fun i hi h => by
    rcases h with h | h | h
    · exact .inl h
    · exact .inr h
    · omega⟩
  refine O.dec (fun h0' => ?_) (fun h0' => ?_)
  · refine stpP ?_
    refine O.callT (End_run hr2) (fun r h3 hr => ?_)
    obtain ⟨rfl, hf3⟩ := hr
    have hn3' := hf3.n
    refine stpP ?_
    rw [same_fault]
    refine stpP ?_
    refine C.ifN (fun hc => ?_) (fun hc => ?_)
    · have herr : st1.e ≠ 0 := fun h0 => hc (by
        unfold restS at h0'
        rw [if_pos h0] at h0'
        unfold endS
        rw [if_neg (by omega), h0, hfa h0])
      have hend : endS bs st1 = (st1.e, st1.fa) := by
        unfold endS
        rw [if_neg (fun h => herr h.1)]
      rw [if_neg herr]
      haveI hQ3 := hf3.keep hQ2 (by omega) id
      haveI hO3 := hf3.keep hO2 (by omega) id
      have hn3 := hf3.n
      refine stpP ?_
      refine O.call' (End_run (hr2.none hf3)) (fun r h4 hr => ?_)
      obtain ⟨rfl, hf4⟩ := hr
      rw [hend]
      have hn4 := hf4.n
      have hf24 := hf3.trans' hf4
      haveI hQ4 := hf4.keep hQ3 (by omega) id
      haveI hO4 := hf4.keep hO3 (by omega) id
      haveI : BLt h.n h4 := ⟨by omega⟩
      haveI : BNe h.n q := ⟨by omega⟩
      haveI : BNe q h.n := ⟨by omega⟩
      haveI : BLt q h4 := ⟨by omega⟩
      refine stpP ?_
      refine ⟨rfl, HGet.eq, fin ?_⟩
      exact Fr.set (Fr.set (hf24.mono fun _ _ h => h.elim) fun _ => .inl rfl) fun _ => .inr rfl
    · have hok1 : st1.e = 0 := by
          unfold endS at hc
          split at hc
          · cases hc
          · exact (Prod.mk.inj hc).1
      rw [if_pos hok1]
      refine stpP ?_
      haveI hQ3 := (hf3).keep hQ2 (by omega) id
      haveI hO3 := (hf3).keep hO2 (by omega) id
      have hn3 := (hf3).n
      refine O.call' (Decode_ok (bs := l) ((ho.keep (hf3) fun _ _ => id).rd) (by omega)) (fun r h4 hr => ?_)
      obtain ⟨rfl, hf4⟩ := hr
      have hok := decS_ok l
      generalize decS l = D at *
      obtain ⟨X, e', a'⟩ := D
      simp only at hok ⊢
      haveI := l32 hok.prev
      haveI := l32 hok.vals
      haveI := l32 hok.next
      haveI := l32 hok.app
      have hn4 := hf4.n
      have hf24 := (hf3).trans' hf4
      haveI hQ4 := hf4.keep hQ3 (by omega) id
      haveI hO4 := hf4.keep hO3 (by omega) id
      haveI : BLt h.n h4 := ⟨by omega⟩
      haveI : BNe h.n q := ⟨by omega⟩
      haveI : BNe q h.n := ⟨by omega⟩
      haveI : BLt q h4 := ⟨by omega⟩
      refine stpP ?_
      rw [same_fault]
      refine C.ifN (fun hc => ?_) (fun hc => ?_)
      · refine stpP ?_
        rw [if_neg hc]
        refine ⟨rfl, HGet.eq, fin ?_⟩
        have hn24 := hf24.n
        exact Fr.set (Fr.set (Fr.set (Fr.set (hf24.mono fun _ _ h => h.elim).push.push fun hlt => by omega) fun hlt => by simp at hlt; omega) fun _ => .inl rfl) fun _ => .inr rfl
      · refine stpP ?_
        rw [if_pos hc]
        refine ⟨rfl, HGet.eq, fin ?_⟩
        have hn24 := hf24.n
        exact Fr.set (Fr.set (Fr.set (hf24.mono fun _ _ h => h.elim).push.push fun hlt => by omega) fun hlt => by simp at hlt; omega) fun _ => .inr rfl
  · refine stpP ?_
    have hok1 : st1.e = 0 := by
      by_cases h : st1.e = 0
      · exact h
      · exact absurd (by unfold restS; rw [if_neg h]) h0'
    rw [if_pos hok1]
    refine stpP ?_
    haveI hQ3 := ((Fr.refl : Fr (fun _ => False) h2 h2)).keep hQ2 (by omega) id
    haveI hO3 := ((Fr.refl : Fr (fun _ => False) h2 h2)).keep hO2 (by omega) id
    have hn3 := ((Fr.refl : Fr (fun _ => False) h2 h2)).n
    refine O.call' (Decode_ok (bs := l) ((ho.keep ((Fr.refl : Fr (fun _ => False) h2 h2)) fun _ _ => id).rd) (by omega)) (fun r h4 hr => ?_)
    obtain ⟨rfl, hf4⟩ := hr
    have hok := decS_ok l
    generalize decS l = D at *
    obtain ⟨X, e', a'⟩ := D
    simp only at hok ⊢
    haveI := l32 hok.prev
    haveI := l32 hok.vals
    haveI := l32 hok.next
    haveI := l32 hok.app
    have hn4 := hf4.n
    have hf24 := ((Fr.refl : Fr (fun _ => False) h2 h2)).trans' hf4
    haveI hQ4 := hf4.keep hQ3 (by omega) id
    haveI hO4 := hf4.keep hO3 (by omega) id
    haveI : BLt h.n h4 := ⟨by omega⟩
    haveI : BNe h.n q := ⟨by omega⟩
    haveI : BNe q h.n := ⟨by omega⟩
    haveI : BLt q h4 := ⟨by omega⟩
    refine stpP ?_
    rw [same_fault]
    refine C.ifN (fun hc => ?_) (fun hc => ?_)
    · refine stpP ?_
      rw [if_neg hc]
      refine ⟨rfl, HGet.eq, fin ?_⟩
      have hn24 := hf24.n
      exact Fr.set (Fr.set (Fr.set (Fr.set (hf24.mono fun _ _ h => h.elim).push.push fun hlt => by omega) fun hlt => by simp at hlt; omega) fun _ => .inl rfl) fun _ => .inr rfl
    · refine stpP ?_
      rw [if_pos hc]
      refine ⟨rfl, HGet.eq, fin ?_⟩
      have hn24 := hf24.n
      exact Fr.set (Fr.set (Fr.set (hf24.mono fun _ _ h => h.elim).push.push fun hlt => by omega) fun hlt => by simp at hlt; omega) fun _ => .inr rfl
set_option maxHeartbeats 4000000 in
theorem partC_ok {h : Heap} {p q : Nat} {sv : Value} {bs : List UInt8} {st : RSt} {e a : Int} (hp : PRs h p sv bs st) (hq : h.get q = .cells [.int .i64 e, .int .i64 a] 0) (hqn : q < h.n) (hqp : q ≠ p) (hqs : ¬ ownedBy sv q) (hst : (e, a) = ((0, 0) : Int × Int) → st.e = 0) :
    Runs Tryz.prog T0 (.fn fn_zgQ) [.pointer (some ⟨p, 0, none⟩), .int .i64 bs.length, .pointer (some ⟨q, 0, none⟩), .func (.func fn_zoQ) ⟨[]⟩ ⟨[]⟩] h
      (fun r h' => (∃ sl, r = .agg ⟨(partB decC zCm bs ((e, a), st)).1.cells sl⟩ ∧ Own h' 2 sl (tcells (partB decC zCm bs ((e, a), st)).1.votes) (partB decC zCm bs ((e, a), st)).1.votes.length ∧ ∀ i, ownedBy sl i → h.n ≤ i) ∧ h'.get q = .cells [.int .i64 (partB decC zCm bs ((e, a), st)).2.1.1, .int .i64 (partB decC zCm bs ((e, a), st)).2.1.2] 0 ∧ PRs h' p sv bs (partB decC zCm bs ((e, a), st)).2.2 ∧ Fr (fun i => i = p ∨ i = q) h h') (fun _ _ => False) := by
  have hpl := hp.lt
  have hown := fun {i : Nat} (hi : ownedBy sv i) => hp.own_lt hi
  haveI hQ : HGet h q _ := ⟨hq⟩
  haveI : BLt q h := ⟨hqn⟩
  refine zgQ_runs ?_
  refine stpP ?_
  rw [same_fault]
  refine C.ifN (fun hz => ?_) (fun hz => ?_)
  · refine stpP ?_
    unfold partB
    rw [if_neg hz]
    exact ⟨⟨_, rfl, .none, fun i hi => hi.elim⟩, (HGet.push (k := ⟨hqn⟩) (g := hQ)).eq, hp.none Fr.refl.push, Fr.refl.push⟩
  obtain ⟨rfl, rfl⟩ := Prod.mk.inj hz
  have hse := hst rfl
  have hple := hp.le hse
  have hsm := hp.small
  refine stpP ?_
  generalize hh1 : h.push (.cells (.int .i64 0 :: (z32 ++ [.slice none 0 0])) 0) = h1
  have hf1 : Fr (fun _ => False) h h1 := by rw [← hh1]; exact Fr.refl.push
  have hp1 := hp.none hf1
  have hQ1 := hf1.keep hQ hqn id
  have hO1 : HGet h1 h.n (.cells (.int .i64 0 :: (z32 ++ [.slice none 0 0])) 0) := by rw [← hh1]; exact HGet.new
  have hn1' : h.n < h1.n := by rw [← hh1]; simp
  clear hh1
  refine O.call' (Rest_run hp1) (fun r h1' hr => ?_)
  obtain ⟨rfl, hh1'⟩ := hr
  obtain rfl := hh1'.symm
  have hrest : restS bs st = (bs.length : Int) - st.pl := by unfold restS; rw [if_pos hse]
  rw [hrest]
  refine stpP ?_
  have hat : (bs.length : Int) - ((bs.length : Int) - st.pl) = st.pl := by omega
  rw [hat]
  have k2 := Bytes_run (most := 65536) hp1 (by omega)
  have hpart : partB decC zCm bs ((0, 0), st) = (if (rd (bytesS bs 65536) [] st).2.e = 0 then (if (decC (rd (bytesS bs 65536) [] st).1).2 = (0, 0) then ((decC (rd (bytesS bs 65536) [] st).1).1, (0, 0), (rd (bytesS bs 65536) [] st).2) else (zCm, (5, (st.pl : Int)), (rd (bytesS bs 65536) [] st).2)) else (zCm, ((rd (bytesS bs 65536) [] st).2.e, (rd (bytesS bs 65536) [] st).2.fa), (rd (bytesS bs 65536) [] st).2)) := by unfold partB; rw [if_pos rfl]
  rw [hpart]
  clear hpart
  have hbl : (rd (bytesS bs 65536) [] st).1.length ≤ bs.length := rd_bytes_len
  generalize rd (bytesS bs 65536) [] st = b at *
  obtain ⟨l, st1⟩ := b
  refine O.call' k2 (fun r h2 hr => ?_)
  obtain ⟨hf2, ⟨ho, hnew⟩, hr2⟩ := hr
  simp only at ho hr2 hbl hnew ⊢
  have hn1 := hf1.n
  have hn2 := hf2.n
  have hQ2 := hf2.keep hQ1 (by omega) hqp
  have hO2 := hf2.keep hO1 hn1' (by omega)
  have hfa : st1.e = 0 → st1.fa = 0 := fun h0 => (let ⟨_, h1, _⟩ := hr2.ex; (h1 h0).2)
  have hle1 : st1.e = 0 → st1.pl ≤ bs.length := fun h0 => hr2.le h0
  refine stpP ?_
  refine O.call' (Rest_run hr2) (fun r h2' hr => ?_)
  obtain ⟨rfl, hh2⟩ := hr
  obtain rfl := hh2.symm
  refine stpP ?_
  have fin : ∀ {H : Heap}, Fr (fun i => i = q ∨ i = h.n) h2 H → PRs H p sv bs st1 ∧ Fr (fun i => i = p ∨ i = q) h H := fun hf => ⟨hr2.keep hf (by omega) fun i hi hs => by
    have := hown hi
    rcases hs with h | h
    · exact hqs (h ▸ hi)
    · omega, Fr.trans (S := fun i => i = p ∨ i = q) (hf1.mono fun _ _ h => h.elim) (Fr.trans (S := fun i => i = p ∨ i = q ∨ i = h.n) (hf2.mono fun _ _ h => .inl h) hf fun i _ h => .inr h) fun i hi h => by
    rcases h with h | h | h
    · exact .inl h
    · exact .inr h
    · omega⟩
  refine O.dec (fun h0' => ?_) (fun h0' => ?_)
  · refine stpP ?_
    refine O.callT (End_run hr2) (fun r h3 hr => ?_)
    obtain ⟨rfl, hf3⟩ := hr
    have hn3' := hf3.n
    refine stpP ?_
    rw [same_fault]
    refine stpP ?_
    refine C.ifN (fun hc => ?_) (fun hc => ?_)
    · have herr : st1.e ≠ 0 := fun h0 => hc (by
        unfold restS at h0'
        rw [if_pos h0] at h0'
        unfold endS
        rw [if_neg (by omega), h0, hfa h0])
      have hend : endS bs st1 = (st1.e, st1.fa) := by
        unfold endS
        rw [if_neg (fun h => herr h.1)]
      rw [if_neg herr]
      haveI hQ3 := hf3.keep hQ2 (by omega) id
      haveI hO3 := hf3.keep hO2 (by omega) id
      have hn3 := hf3.n
      refine stpP ?_
      refine O.call' (End_run (hr2.none hf3)) (fun r h4 hr => ?_)
      obtain ⟨rfl, hf4⟩ := hr
      rw [hend]
      have hn4 := hf4.n
      have hf24 := hf3.trans' hf4
      haveI hQ4 := hf4.keep hQ3 (by omega) id
      haveI hO4 := hf4.keep hO3 (by omega) id
      haveI : BLt h.n h4 := ⟨by omega⟩
      haveI : BNe h.n q := ⟨by omega⟩
      haveI : BNe q h.n := ⟨by omega⟩
      haveI : BLt q h4 := ⟨by omega⟩
      refine stpP ?_
      refine ⟨⟨_, rfl, .none, fun i hi => hi.elim⟩, HGet.eq, fin ?_⟩
      exact Fr.set (Fr.set (hf24.mono fun _ _ h => h.elim) fun _ => .inl rfl) fun _ => .inr rfl
    · have hok1 : st1.e = 0 := by
          unfold endS at hc
          split at hc
          · cases hc
          · exact (Prod.mk.inj hc).1
      rw [if_pos hok1]
      refine stpP ?_
      haveI hQ3 := (hf3).keep hQ2 (by omega) id
      haveI hO3 := (hf3).keep hO2 (by omega) id
      have hn3 := (hf3).n
      refine O.call' (CDecode_ok (bs := l) ((ho.keep (hf3) fun _ _ => id).rd) (by omega)) (fun r h4 hr => ?_)
      obtain ⟨sl, rfl, ho4, hnew4, hf4⟩ := hr
      have hok := decC_ok l
      generalize decC l = D at *
      obtain ⟨X, e', a'⟩ := D
      simp only at hok ho4 ⊢
      obtain ⟨asl, csl, rfl, _, _⟩ := ho4.rd
      haveI := l32 hok.1
      have hn4 := hf4.n
      have hf24 := (hf3).trans' hf4
      haveI hQ4 := hf4.keep hQ3 (by omega) id
      haveI hO4 := hf4.keep hO3 (by omega) id
      haveI : BLt h.n h4 := ⟨by omega⟩
      haveI : BNe h.n q := ⟨by omega⟩
      haveI : BNe q h.n := ⟨by omega⟩
      haveI : BLt q h4 := ⟨by omega⟩
      refine stpP ?_
      rw [same_fault]
      refine C.ifN (fun hc => ?_) (fun hc => ?_)
      · refine stpP ?_
        rw [if_neg hc]
        refine ⟨⟨_, rfl, .none, fun i hi => hi.elim⟩, HGet.eq, fin ?_⟩
        have hn24 := hf24.n
        exact Fr.set (Fr.set (Fr.set (Fr.set (hf24.mono fun _ _ h => h.elim).push.push fun hlt => by omega) fun hlt => by simp at hlt; omega) fun _ => .inl rfl) fun _ => .inr rfl
      · refine stpP ?_
        rw [if_pos hc]
        refine ⟨⟨_, rfl, ho4.keep (S := fun i => i = h.n) (Fr.set (Fr.set (Fr.set Fr.refl.push.push fun hlt => by omega) fun hlt => by simp at hlt; omega) fun _ => rfl) fun i hi h => (by have := hnew4 i hi; omega), fun i hi => (by have := hnew4 i hi; omega)⟩, HGet.eq, fin ?_⟩
        have hn24 := hf24.n
        exact Fr.set (Fr.set (Fr.set (hf24.mono fun _ _ h => h.elim).push.push fun hlt => by omega) fun hlt => by simp at hlt; omega) fun _ => .inr rfl
  · refine stpP ?_
    have hok1 : st1.e = 0 := by
      by_cases h : st1.e = 0
      · exact h
      · exact absurd (by unfold restS; rw [if_neg h]) h0'
    rw [if_pos hok1]
    refine stpP ?_
    haveI hQ3 := ((Fr.refl : Fr (fun _ => False) h2 h2)).keep hQ2 (by omega) id
    haveI hO3 := ((Fr.refl : Fr (fun _ => False) h2 h2)).keep hO2 (by omega) id
    have hn3 := ((Fr.refl : Fr (fun _ => False) h2 h2)).n
    refine O.call' (CDecode_ok (bs := l) ((ho.keep ((Fr.refl : Fr (fun _ => False) h2 h2)) fun _ _ => id).rd) (by omega)) (fun r h4 hr => ?_)
    obtain ⟨sl, rfl, ho4, hnew4, hf4⟩ := hr
    have hok := decC_ok l
    generalize decC l = D at *
    obtain ⟨X, e', a'⟩ := D
    simp only at hok ho4 ⊢
    obtain ⟨asl, csl, rfl, _, _⟩ := ho4.rd
    haveI := l32 hok.1
    have hn4 := hf4.n
    have hf24 := ((Fr.refl : Fr (fun _ => False) h2 h2)).trans' hf4
    haveI hQ4 := hf4.keep hQ3 (by omega) id
    haveI hO4 := hf4.keep hO3 (by omega) id
    haveI : BLt h.n h4 := ⟨by omega⟩
    haveI : BNe h.n q := ⟨by omega⟩
    haveI : BNe q h.n := ⟨by omega⟩
    haveI : BLt q h4 := ⟨by omega⟩
    refine stpP ?_
    rw [same_fault]
    refine C.ifN (fun hc => ?_) (fun hc => ?_)
    · refine stpP ?_
      rw [if_neg hc]
      refine ⟨⟨_, rfl, .none, fun i hi => hi.elim⟩, HGet.eq, fin ?_⟩
      have hn24 := hf24.n
      exact Fr.set (Fr.set (Fr.set (Fr.set (hf24.mono fun _ _ h => h.elim).push.push fun hlt => by omega) fun hlt => by simp at hlt; omega) fun _ => .inl rfl) fun _ => .inr rfl
    · refine stpP ?_
      rw [if_pos hc]
      refine ⟨⟨_, rfl, ho4.keep (S := fun i => i = h.n) (Fr.set (Fr.set (Fr.set Fr.refl.push.push fun hlt => by omega) fun hlt => by simp at hlt; omega) fun _ => rfl) fun i hi h => (by have := hnew4 i hi; omega), fun i hi => (by have := hnew4 i hi; omega)⟩, HGet.eq, fin ?_⟩
      have hn24 := hf24.n
      exact Fr.set (Fr.set (Fr.set (hf24.mono fun _ _ h => h.elim).push.push fun hlt => by omega) fun hlt => by simp at hlt; omega) fun _ => .inr rfl
set_option maxHeartbeats 4000000 in
theorem partV_ok {h : Heap} {p q : Nat} {sv : Value} {bs : List UInt8} {st : RSt} {e a : Int} (hp : PRs h p sv bs st) (hq : h.get q = .cells [.int .i64 e, .int .i64 a] 0) (hqn : q < h.n) (hqp : q ≠ p) (hqs : ¬ ownedBy sv q) (hst : (e, a) = ((0, 0) : Int × Int) → st.e = 0) :
    Runs Tryz.prog T0 (.fn fn_zfQ) [.pointer (some ⟨p, 0, none⟩), .int .i64 bs.length, .pointer (some ⟨q, 0, none⟩), .func (.func fn_zlcQ) ⟨[]⟩ ⟨[]⟩] h
      (fun r h' => (∃ sl, r = sl ∧ Own h' 5 sl (vcells (partB decV [] bs ((e, a), st)).1) (partB decV [] bs ((e, a), st)).1.length ∧ ∀ i, ownedBy sl i → h.n ≤ i) ∧ h'.get q = .cells [.int .i64 (partB decV [] bs ((e, a), st)).2.1.1, .int .i64 (partB decV [] bs ((e, a), st)).2.1.2] 0 ∧ PRs h' p sv bs (partB decV [] bs ((e, a), st)).2.2 ∧ Fr (fun i => i = p ∨ i = q) h h') (fun _ _ => False) := by
  have hpl := hp.lt
  have hown := fun {i : Nat} (hi : ownedBy sv i) => hp.own_lt hi
  haveI hQ : HGet h q _ := ⟨hq⟩
  haveI : BLt q h := ⟨hqn⟩
  refine zfQ_runs ?_
  refine stpP ?_
  rw [same_fault]
  refine C.ifN (fun hz => ?_) (fun hz => ?_)
  · refine stpP ?_
    unfold partB
    rw [if_neg hz]
    exact ⟨⟨_, rfl, .none, fun i hi => hi.elim⟩, hq, hp, Fr.refl⟩
  obtain ⟨rfl, rfl⟩ := Prod.mk.inj hz
  have hse := hst rfl
  have hple := hp.le hse
  have hsm := hp.small
  refine stpP ?_
  have hf1 : Fr (fun _ => False) h h := Fr.refl
  have hp1 := hp
  have hQ1 := hQ
  refine O.call' (Rest_run hp1) (fun r h1' hr => ?_)
  obtain ⟨rfl, hh1'⟩ := hr
  obtain rfl := hh1'.symm
  have hrest : restS bs st = (bs.length : Int) - st.pl := by unfold restS; rw [if_pos hse]
  rw [hrest]
  refine stpP ?_
  have hat : (bs.length : Int) - ((bs.length : Int) - st.pl) = st.pl := by omega
  rw [hat]
  have k2 := Bytes_run (most := 65536) hp1 (by omega)
  have hpart : partB decV [] bs ((0, 0), st) = (if (rd (bytesS bs 65536) [] st).2.e = 0 then (if (decV (rd (bytesS bs 65536) [] st).1).2 = (0, 0) then ((decV (rd (bytesS bs 65536) [] st).1).1, (0, 0), (rd (bytesS bs 65536) [] st).2) else ([], (5, (st.pl : Int)), (rd (bytesS bs 65536) [] st).2)) else ([], ((rd (bytesS bs 65536) [] st).2.e, (rd (bytesS bs 65536) [] st).2.fa), (rd (bytesS bs 65536) [] st).2)) := by unfold partB; rw [if_pos rfl]
  rw [hpart]
  clear hpart
  have hbl : (rd (bytesS bs 65536) [] st).1.length ≤ bs.length := rd_bytes_len
  generalize rd (bytesS bs 65536) [] st = b at *
  obtain ⟨l, st1⟩ := b
  refine O.call' k2 (fun r h2 hr => ?_)
  obtain ⟨hf2, ⟨ho, hnew⟩, hr2⟩ := hr
  simp only at ho hr2 hbl hnew ⊢
  have hn1 := hf1.n
  have hn2 := hf2.n
  have hQ2 := hf2.keep hQ1 (by omega) hqp
  have hfa : st1.e = 0 → st1.fa = 0 := fun h0 => (let ⟨_, h1, _⟩ := hr2.ex; (h1 h0).2)
  have hle1 : st1.e = 0 → st1.pl ≤ bs.length := fun h0 => hr2.le h0
  refine stpP ?_
  refine O.call' (Rest_run hr2) (fun r h2' hr => ?_)
  obtain ⟨rfl, hh2⟩ := hr
  obtain rfl := hh2.symm
  refine stpP ?_
  have fin : ∀ {H : Heap}, Fr (fun i => i = q) h2 H → PRs H p sv bs st1 ∧ Fr (fun i => i = p ∨ i = q) h H := fun hf => ⟨hr2.keep hf (by omega) fun i hi hs => hqs (hs ▸ hi), Fr.trans (S := fun i => i = p ∨ i = q) (hf1.mono fun _ _ h => h.elim) (Fr.trans (S := fun i => i = p ∨ i = q) (hf2.mono fun _ _ h => .inl h) hf fun i _ h => .inr h) fun i hi h => h⟩
  refine O.dec (fun h0' => ?_) (fun h0' => ?_)
  · refine stpP ?_
    refine O.callT (End_run hr2) (fun r h3 hr => ?_)
    obtain ⟨rfl, hf3⟩ := hr
    have hn3' := hf3.n
    refine stpP ?_
    rw [same_fault]
    refine stpP ?_
    refine C.ifN (fun hc => ?_) (fun hc => ?_)
    · have herr : st1.e ≠ 0 := fun h0 => hc (by
        unfold restS at h0'
        rw [if_pos h0] at h0'
        unfold endS
        rw [if_neg (by omega), h0, hfa h0])
      have hend : endS bs st1 = (st1.e, st1.fa) := by
        unfold endS
        rw [if_neg (fun h => herr h.1)]
      rw [if_neg herr]
      haveI hQ3 := hf3.keep hQ2 (by omega) id
      have hn3 := hf3.n
      refine stpP ?_
      refine O.call' (End_run (hr2.none hf3)) (fun r h4 hr => ?_)
      obtain ⟨rfl, hf4⟩ := hr
      rw [hend]
      have hn4 := hf4.n
      have hf24 := hf3.trans' hf4
      haveI hQ4 := hf4.keep hQ3 (by omega) id
      haveI : BLt q h4 := ⟨by omega⟩
      refine stpP ?_
      refine ⟨⟨_, rfl, .none, fun i hi => hi.elim⟩, HGet.eq, fin ?_⟩
      exact Fr.set (hf24.mono fun _ _ h => h.elim) fun _ => rfl
    · have hok1 : st1.e = 0 := by
          unfold endS at hc
          split at hc
          · cases hc
          · exact (Prod.mk.inj hc).1
      rw [if_pos hok1]
      refine stpP ?_
      haveI hQ3 := (hf3).keep hQ2 (by omega) id
      have hn3 := (hf3).n
      refine O.call' (VDecode_ok (bs := l) ((ho.keep (hf3) fun _ _ => id).rd) (by omega)) (fun r h4 hr => ?_)
      obtain ⟨sl, rfl, ho4, hnew4, hf4⟩ := hr
      generalize decV l = D at *
      obtain ⟨X, e', a'⟩ := D
      simp only at ho4 ⊢
      have hn4 := hf4.n
      have hf24 := (hf3).trans' hf4
      haveI hQ4 := hf4.keep hQ3 (by omega) id
      haveI : BLt q h4 := ⟨by omega⟩
      refine stpP ?_
      rw [same_fault]
      refine C.ifN (fun hc => ?_) (fun hc => ?_)
      · refine stpP ?_
        rw [if_neg hc]
        refine ⟨⟨_, rfl, .none, fun i hi => hi.elim⟩, HGet.eq, fin ?_⟩
        exact Fr.set (hf24.mono fun _ _ h => h.elim).push fun _ => rfl
      · refine stpP ?_
        rw [if_pos hc]
        refine ⟨⟨_, rfl, ho4.keep (S := fun _ => False) Fr.refl.push fun _ _ => id, fun i hi => (by have := hnew4 i hi; omega)⟩, HGet.eq, fin ?_⟩
        exact (hf24.mono fun _ _ h => h.elim).push
  · refine stpP ?_
    have hok1 : st1.e = 0 := by
      by_cases h : st1.e = 0
      · exact h
      · exact absurd (by unfold restS; rw [if_neg h]) h0'
    rw [if_pos hok1]
    refine stpP ?_
    haveI hQ3 := ((Fr.refl : Fr (fun _ => False) h2 h2)).keep hQ2 (by omega) id
    have hn3 := ((Fr.refl : Fr (fun _ => False) h2 h2)).n
    refine O.call' (VDecode_ok (bs := l) ((ho.keep ((Fr.refl : Fr (fun _ => False) h2 h2)) fun _ _ => id).rd) (by omega)) (fun r h4 hr => ?_)
    obtain ⟨sl, rfl, ho4, hnew4, hf4⟩ := hr
    generalize decV l = D at *
    obtain ⟨X, e', a'⟩ := D
    simp only at ho4 ⊢
    have hn4 := hf4.n
    have hf24 := ((Fr.refl : Fr (fun _ => False) h2 h2)).trans' hf4
    haveI hQ4 := hf4.keep hQ3 (by omega) id
    haveI : BLt q h4 := ⟨by omega⟩
    refine stpP ?_
    rw [same_fault]
    refine C.ifN (fun hc => ?_) (fun hc => ?_)
    · refine stpP ?_
      rw [if_neg hc]
      refine ⟨⟨_, rfl, .none, fun i hi => hi.elim⟩, HGet.eq, fin ?_⟩
      exact Fr.set (hf24.mono fun _ _ h => h.elim).push fun _ => rfl
    · refine stpP ?_
      rw [if_pos hc]
      refine ⟨⟨_, rfl, ho4.keep (S := fun _ => False) Fr.refl.push fun _ _ => id, fun i hi => (by have := hnew4 i hi; omega)⟩, HGet.eq, fin ?_⟩
      exact (hf24.mono fun _ _ h => h.elim).push
end Go.Proofs.YtninaabbojcdpaaGreat.A

namespace Go.Proofs.YtninaabbojcdpaaGreat.A
open Go Go.Vm
set_option maxRecDepth 10000
set_option linter.unusedVariables false
structure Bk where
  h : Hd
  c : Cm
  vals : List Val
abbrev zBk : Bk := ⟨zeroHd, zCm, []⟩
structure Bk.ok (x : Bk) : Prop where
  h : x.h.ok
  hash : x.c.hash.length = 32
  votes : x.c.votes.length ≤ 64
  vals : x.vals.length ≤ 64
abbrev Bk.cells (x : Bk) (sv sl : Value) : List Value := .string ⟨⟨x.h.chain⟩⟩ :: .int .i64 x.h.height :: .int .i64 x.h.time :: (bcells x.h.prev ++ (bcells x.h.vals ++ (bcells x.h.next ++ (bcells x.h.app ++ (.int .i64 x.c.height :: (bcells x.c.hash ++ [sv, sl]))))))
abbrev zBc : List Value := .string ⟨⟨[]⟩⟩ :: .int .i64 0 :: .int .i64 0 :: (z32 ++ (z32 ++ (z32 ++ (z32 ++ (.int .i64 0 :: (z32 ++ [.slice none 0 0, .slice none 0 0]))))))
def decB (bs : List UInt8) : Bk × Int × Int :=
  let y1 := partB decS zeroHd bs ((0, 0), ⟨0, 0, 0⟩)
  let y2 := partB decC zCm bs y1.2
  let y3 := partB decV [] bs y2.2
  let f := if y3.2.1 = (0, 0) then endS bs y3.2.2 else y3.2.1
  if f = (0, 0) then (⟨y1.1, y2.1, y3.1⟩, f) else (zBk, f)
theorem partB_prop {α : Type} {dec : List UInt8 → α × Int × Int} {zero : α} {P : α → Prop} (hd : ∀ l, P (dec l).1) (hz : P zero) (bs : List UInt8) (y : (Int × Int) × RSt) : P (partB dec zero bs y).1 := by
  unfold partB
  split
  · simp only
    split
    · split
      · exact hd _
      · exact hz
    · exact hz
  · exact hz
theorem decB_ok (bs : List UInt8) : (decB bs).1.ok := by
  have h1 := partB_prop (P := Hd.ok) decS_ok zeroHd_ok bs ((0, 0), ⟨0, 0, 0⟩)
  have h2 := partB_prop (P := fun c : Cm => c.hash.length = 32 ∧ c.votes.length ≤ 64) (zero := zCm) decC_ok ⟨rfl, Nat.zero_le 64⟩ bs (partB decS zeroHd bs ((0, 0), ⟨0, 0, 0⟩)).2
  have h3 := partB_prop (P := fun l : List Val => l.length ≤ 64) (zero := []) decV_len (Nat.zero_le 64) bs (partB decC zCm bs (partB decS zeroHd bs ((0, 0), ⟨0, 0, 0⟩)).2).2
  have key : ∀ f : Int × Int, (if f = (0, 0) then ((⟨(partB decS zeroHd bs ((0, 0), ⟨0, 0, 0⟩)).1, (partB decC zCm bs (partB decS zeroHd bs ((0, 0), ⟨0, 0, 0⟩)).2).1, (partB decV [] bs (partB decC zCm bs (partB decS zeroHd bs ((0, 0), ⟨0, 0, 0⟩)).2).2).1⟩ : Bk), f) else (zBk, f)).1.ok := fun f => by
    split
    · exact ⟨h1, h2.1, h2.2, h3⟩
    · exact ⟨zeroHd_ok, rfl, by simp, by simp⟩
  exact key _
structure BkOwn (h : Heap) (lo : Nat) (x : Bk) (sv sl : Value) : Prop where
  votes : Own h 2 sv (tcells x.c.votes) x.c.votes.length
  vals : Own h 5 sl (vcells x.vals) x.vals.length
  vnew : ∀ i, ownedBy sv i → lo ≤ i
  lnew : ∀ i, ownedBy sl i → lo ≤ i
  apart : ∀ i, ownedBy sv i → ¬ ownedBy sl i
theorem BkOwn.keep {S : Nat → Prop} {h h' : Heap} {lo : Nat} {x : Bk} {sv sl : Value} (hb : BkOwn h lo x sv sl) (hf : Fr S h h') (hs : ∀ i, S i → i < lo ∨ h.n ≤ i) : BkOwn h' lo x sv sl :=
  ⟨hb.votes.keep hf fun i hi h => (by have := hb.vnew i hi; have := hb.votes.lt hi; have := hs i h; omega), hb.vals.keep hf fun i hi h => (by have := hb.lnew i hi; have := hb.vals.lt hi; have := hs i h; omega), hb.vnew, hb.lnew, hb.apart⟩
theorem BkOwn.zero {h : Heap} {lo : Nat} : BkOwn h lo zBk (.slice none 0 0) (.slice none 0 0) := ⟨.none, .none, fun i hi => hi.elim, fun i hi => hi.elim, fun i hi => hi.elim⟩
set_option maxHeartbeats 8000000 in
theorem BDecode_ok {h : Heap} {v : Value} {bs : List UInt8} (hv : Rd h 1 v (bcells bs) bs.length) (hs : bs.length < 1048576) : Runs Tryz.prog T0 (.fn fn_zaQ) [v] h
    (fun r h' => ∃ sv sl, r = .tuple ⟨[.agg ⟨(decB bs).1.cells sv sl⟩, .agg ⟨[.int .i64 (decB bs).2.1, .int .i64 (decB bs).2.2]⟩]⟩ ∧ BkOwn h' h.n (decB bs).1 sv sl ∧ Fr (fun _ => False) h h') (fun _ _ => False) := by
  have hv' := hv
  obtain ⟨a0, cap0, rfl, hl0, _⟩ := hv
  refine zaQ_runs ?_
  refine stpP ?_
  generalize hh0 : ((h.push (.cells zBc 0)).push (.cells [.int .i64 0, .int .i64 0] 0)) = h0
  have hf0 : Fr (fun _ => False) h h0 := by rw [← hh0]; exact Fr.refl.push.push
  have hn0 : h0.n = h.n + 2 := by rw [← hh0]; rfl
  have hA0 : HGet h0 h.n (.cells zBc 0) := by rw [← hh0]; exact HGet.push (k := BLt.new) (g := HGet.new)
  generalize hb3 : (h.push (.cells zBc 0)).n = b3
  have hb3' : b3 = h.n + 1 := by rw [← hb3]; rfl
  have hB0 : HGet h0 b3 (.cells [.int .i64 0, .int .i64 0] 0) := by rw [← hh0, ← hb3]; exact HGet.new
  clear hh0 hb3
  refine O.call' (NewReader_ok (hv'.keep hf0 fun _ _ => id) hs) (fun r h1' hr => ?_)
  obtain ⟨p, sv, rfl, hp1, hsv, hr1', hf1'⟩ := hr
  have hlt1' := hr1'.lt
  have hn1' := hf1'.n
  have hA1' : HGet h1' h.n _ := hf1'.keep hA0 (by omega) id
  have hB1' : HGet h1' b3 _ := hf1'.keep hB0 (by omega) id
  refine stpP ?_
  generalize hx : h1'.n = q
  generalize hh1 : h1'.push (.cells [.int .i64 0, .int .i64 0] 0) = h1
  have hf1x : Fr (fun _ => False) h1' h1 := by rw [← hh1]; exact Fr.refl.push
  have hn1 : h1.n = q + 1 := by rw [← hh1, ← hx]; rfl
  have hq1 : h1.get q = .cells [.int .i64 0, .int .i64 0] 0 := by rw [← hh1, ← hx, Heap.get_push, if_pos rfl]
  clear hh1
  have hA1 := hf1x.keep hA1' (by omega) id
  have hB1 := hf1x.keep hB1' (by omega) id
  have hr1 := hr1'.none hf1x
  have hf1 := hf1'.trans' hf1x
  have hlt1 := hr1.lt
  have hown1 : ∀ i, ownedBy sv i → h0.n ≤ i ∧ i < q := fun i hi => ⟨hsv i hi, by have := hr1'.own_lt hi; omega⟩
  have hqs : ¬ ownedBy sv q := fun hi => by have := (hown1 q hi).2; omega
  have hok := decB_ok bs
  have hdec : decB bs = (let f := if (partB decV [] bs (partB decC zCm bs (partB decS zeroHd bs ((0, 0), ⟨0, 0, 0⟩)).2).2).2.1 = (0, 0) then endS bs (partB decV [] bs (partB decC zCm bs (partB decS zeroHd bs ((0, 0), ⟨0, 0, 0⟩)).2).2).2.2 else (partB decV [] bs (partB decC zCm bs (partB decS zeroHd bs ((0, 0), ⟨0, 0, 0⟩)).2).2).2.1; if f = (0, 0) then (⟨(partB decS zeroHd bs ((0, 0), ⟨0, 0, 0⟩)).1, (partB decC zCm bs (partB decS zeroHd bs ((0, 0), ⟨0, 0, 0⟩)).2).1, (partB decV [] bs (partB decC zCm bs (partB decS zeroHd bs ((0, 0), ⟨0, 0, 0⟩)).2).2).1⟩, f) else (zBk, f)) := rfl
  rw [hdec]
  clear hdec hok
  have k1 := partH_ok hr1 hq1 (by omega) (by omega) hqs (fun _ => rfl)
  have e1 := partB_e (dec := decS) (zero := zeroHd) (bs := bs) (y := ((0, 0), ⟨0, 0, 0⟩)) (fun _ => rfl)
  have hH := partB_prop (P := Hd.ok) decS_ok zeroHd_ok bs ((0, 0), ⟨0, 0, 0⟩)
  generalize partB decS zeroHd bs ((0, 0), ⟨0, 0, 0⟩) = y1 at *
  obtain ⟨X, ⟨f1, g1⟩, st1⟩ := y1
  simp only at k1 e1 hH ⊢
  refine O.call' k1 (fun r h2 hr => ?_)
  obtain ⟨rfl, hq2, hr2, hf2⟩ := hr
  have hn2 := hf2.n
  have hA2 := hf2.keep hA1 (by omega) (by omega)
  have hB2 := hf2.keep hB1 (by omega) (by omega)
  haveI := l32 hH.prev
  haveI := l32 hH.vals
  haveI := l32 hH.next
  haveI := l32 hH.app
  refine stpP ?_
  generalize hx6 : h2.n = x6
  generalize hh3 : h2.push _ = h3
  have hf3 : Fr (fun _ => False) h2 h3 := by rw [← hh3]; exact Fr.refl.push
  have hn3 : h3.n = x6 + 1 := by rw [← hh3, ← hx6]; rfl
  have hC3 := (by rw [← hh3, ← hx6]; exact HGet.new : HGet h3 x6 (.cells (.string ⟨⟨X.chain⟩⟩ :: .int .i64 X.height :: .int .i64 X.time :: (bcells X.prev ++ (bcells X.vals ++ (bcells X.next ++ (bcells X.app ++ (.int .i64 0 :: (z32 ++ [.slice none 0 0, .slice none 0 0]))))))) 0))
  clear hh3
  have hA3 := hf3.keep hA2 (by omega) id
  have hB3 := hf3.keep hB2 (by omega) id
  have hr3 := hr2.none hf3
  have hq3 : h3.get q = .cells [.int .i64 f1, .int .i64 g1] 0 := by rw [hf3.get q (by omega) id, hq2]
  have k2 := partC_ok hr3 hq3 (by omega) (by omega) hqs e1
  have e2 := partB_e (dec := decC) (zero := zCm) (bs := bs) (y := ((f1, g1), st1)) e1
  have hCo := partB_prop (P := fun c : Cm => c.hash.length = 32 ∧ c.votes.length ≤ 64) (zero := zCm) decC_ok ⟨rfl, Nat.zero_le 64⟩ bs ((f1, g1), st1)
  generalize partB decC zCm bs ((f1, g1), st1) = y2 at *
  obtain ⟨Y, ⟨f2, g2⟩, st2⟩ := y2
  simp only at k2 e2 hCo ⊢
  refine O.call' k2 (fun r h4 hr => ?_)
  obtain ⟨⟨sv4, rfl, hov4, hnv4⟩, hq4, hr4, hf4⟩ := hr
  obtain ⟨av4, cv4, rfl, _, _⟩ := hov4.rd
  have hn4 := hf4.n
  have hA4 := hf4.keep hA3 (by omega) (by omega)
  have hB4 := hf4.keep hB3 (by omega) (by omega)
  haveI hC4 := hf4.keep hC3 (by omega) (by omega)
  haveI := l32 hCo.1
  haveI : BLt x6 h4 := ⟨by omega⟩
  refine stpP ?_
  generalize hh5 : h4.set x6 _ = h5
  have hf5 : Fr (fun i => i = x6) h4 h5 := by rw [← hh5]; exact Fr.refl.set fun _ => rfl
  have hn5 : h5.n = h4.n := by rw [← hh5]; simp
  have hC5 := (by rw [← hh5]; exact HGet.same : HGet h5 x6 (.cells (.string ⟨⟨X.chain⟩⟩ :: .int .i64 X.height :: .int .i64 X.time :: (bcells X.prev ++ (bcells X.vals ++ (bcells X.next ++ (bcells X.app ++ (.int .i64 Y.height :: (bcells Y.hash ++ [(.slice av4 Y.votes.length cv4), .slice none 0 0]))))))) 0))
  clear hh5
  have hA5 := hf5.keep hA4 (by omega) (by omega)
  have hB5 := hf5.keep hB4 (by omega) (by omega)
  have hr5 := hr4.keep hf5 (by omega) fun i hi h => by have := (hown1 i hi).2; omega
  have hq5 : h5.get q = .cells [.int .i64 f2, .int .i64 g2] 0 := by rw [hf5.get q (by omega) (by omega), hq4]
  have hov5 := hov4.keep hf5 fun i hi h => by have := hnv4 i hi; omega
  have hlv4 := fun {i : Nat} (hi : ownedBy (.slice av4 Y.votes.length cv4) i) => hov4.lt hi
  have k3 := partV_ok hr5 hq5 (by omega) (by omega) hqs e2
  have e3 := partB_e (dec := decV) (zero := []) (bs := bs) (y := ((f2, g2), st2)) e2
  have hVo := partB_prop (P := fun l : List Val => l.length ≤ 64) (zero := []) decV_len (Nat.zero_le 64) bs ((f2, g2), st2)
  generalize partB decV [] bs ((f2, g2), st2) = y3 at *
  obtain ⟨Z, ⟨f3, g3⟩, st3⟩ := y3
  simp only at k3 e3 hVo ⊢
  refine O.call' k3 (fun r h6 hr => ?_)
  obtain ⟨⟨sl6, rfl, hol6, hnl6⟩, hq6, hr6, hf6⟩ := hr
  obtain ⟨al6, cl6, rfl, _, _⟩ := hol6.rd
  have hn6 := hf6.n
  have hA6 := hf6.keep hA5 (by omega) (by omega)
  have hB6 := hf6.keep hB5 (by omega) (by omega)
  haveI hC6 := hf6.keep hC5 (by omega) (by omega)
  haveI : BLt x6 h6 := ⟨by omega⟩
  have hov6 := hov5.keep hf6 fun i hi h => by have := hnv4 i hi; omega
  haveI hQ6 : HGet h6 q _ := ⟨hq6⟩
  haveI : BNe q x6 := ⟨by omega⟩
  haveI : BNe x6 q := ⟨by omega⟩
  refine stpP ?_
  generalize hh7 : h6.set x6 _ = h7
  have hf7 : Fr (fun i => i = x6) h6 h7 := by rw [← hh7]; exact Fr.refl.set fun _ => rfl
  have hn7 : h7.n = h6.n := by rw [← hh7]; simp
  haveI hC7 := (by rw [← hh7]; exact HGet.same : HGet h7 x6 (.cells (Bk.cells ⟨X, Y, Z⟩ (.slice av4 Y.votes.length cv4) (.slice al6 Z.length cl6)) 0))
  clear hh7
  haveI hA7 := hf7.keep hA6 (by omega) (by omega)
  haveI hB7 := hf7.keep hB6 (by omega) (by omega)
  haveI hQ7 := hf7.keep hQ6 (by omega) (by omega)
  have hr7 := hr6.keep hf7 (by omega) fun i hi h => by have := (hown1 i hi).2; omega
  have hO7 : BkOwn h7 h.n ⟨X, Y, Z⟩ (.slice av4 Y.votes.length cv4) (.slice al6 Z.length cl6) := ⟨hov6.keep hf7 fun i hi h => (by have := hnv4 i hi; have := hlv4 hi; omega), hol6.keep hf7 fun i hi h => (by have := hnl6 i hi; omega), fun i hi => (by have := hnv4 i hi; omega), fun i hi => (by have := hnl6 i hi; omega), fun i hi hl => (by have := hlv4 hi; have := hnl6 i hl; omega)⟩
  have hfh7 : Fr (fun _ => False) h h7 := by
    refine Fr.trans (S := fun _ => False) (hf0.trans' hf1) (S' := fun i => i = p ∨ i = q ∨ i = x6) ?_ fun i hi ho => by omega
    exact Fr.trans' (Fr.trans' (Fr.trans' (Fr.trans' (Fr.trans' (hf2.mono fun _ _ h => by rcases h with h | h <;> omega) (hf3.mono fun _ _ h => h.elim)) (hf4.mono fun _ _ h => by rcases h with h | h <;> omega)) (hf5.mono fun _ _ h => by omega)) (hf6.mono fun _ _ h => by rcases h with h | h <;> omega)) (hf7.mono fun _ _ h => by omega)
  haveI : BLt h.n h7 := ⟨by omega⟩
  haveI : BLt b3 h7 := ⟨by omega⟩
  haveI : BLt q h7 := ⟨by omega⟩
  haveI : BNe h.n b3 := ⟨by omega⟩
  haveI : BNe b3 h.n := ⟨by omega⟩
  haveI : BNe h.n q := ⟨by omega⟩
  haveI : BNe q h.n := ⟨by omega⟩
  haveI : BNe b3 q := ⟨by omega⟩
  haveI : BNe q b3 := ⟨by omega⟩
  haveI : BNe x6 h.n := ⟨by omega⟩
  haveI : BNe x6 b3 := ⟨by omega⟩
  refine stpP ?_
  rw [same_fault]
  refine C.if (fun hz => ?_) (fun hz => ?_)
  · obtain ⟨rfl, rfl⟩ := Prod.mk.inj hz
    refine stpP ?_
    have k4 := End_run hr7
    generalize endS bs st3 = F at *
    obtain ⟨e, a⟩ := F
    refine O.call' k4 (fun r h8 hr => ?_)
    obtain ⟨rfl, hf8⟩ := hr
    have hn8 := hf8.n
    haveI hA8 := hf8.keep hA7 (by omega) id
    haveI hB8 := hf8.keep hB7 (by omega) id
    haveI hC8 := hf8.keep hC7 (by omega) id
    haveI hQ8 := hf8.keep hQ7 (by omega) id
    haveI : BLt h.n h8 := ⟨by omega⟩
    haveI : BLt b3 h8 := ⟨by omega⟩
    haveI : BLt q h8 := ⟨by omega⟩
    haveI : BLt x6 h8 := ⟨by omega⟩
    have hfh8 := hfh7.trans' hf8
    have hO8 := hO7.keep hf8 fun i h => h.elim
    refine stpP ?_
    rw [same_fault]
    refine C.ifN (fun hc => ?_) (fun hc => ?_)
    · refine stpP ?_
      simp only [if_true]
      rw [if_neg hc]
      exact ⟨_, _, rfl, .zero, Fr.set (Fr.set (Fr.set hfh8 fun hlt => by omega) fun hlt => by omega) fun hlt => by omega⟩
    · refine stpP ?_
      simp only [if_true]
      rw [if_pos hc]
      have hfs : ∀ {c1 c2 c3 : AObj}, Fr (fun i => i = h.n ∨ i = b3 ∨ i = q) h8 (((h8.set q c1).set h.n c2).set b3 c3) := fun {c1 c2 c3} => Fr.set (Fr.set (Fr.set Fr.refl fun _ => .inr (.inr rfl)) fun _ => .inl rfl) fun _ => .inr (.inl rfl)
      exact ⟨_, _, rfl, ⟨hO8.votes.keep hfs fun i hi h => (by have := hnv4 i hi; omega), hO8.vals.keep hfs fun i hi h => (by have := hnl6 i hi; omega), hO8.vnew, hO8.lnew, hO8.apart⟩, Fr.set (Fr.set (Fr.set hfh8 fun hlt => by omega) fun hlt => by omega) fun hlt => by omega⟩
  · refine stpP ?_
    rw [same_fault]
    refine C.ifN (fun hc => ?_) (fun hc => absurd hc hz)
    refine stpP ?_
    simp only [if_neg hz]
    exact ⟨_, _, rfl, .zero, Fr.set (Fr.set hfh7 fun hlt => by omega) fun hlt => by omega⟩
end Go.Proofs.YtninaabbojcdpaaGreat.A

namespace Go.Proofs.YtninaabbojcdpaaGreat.A
open Go Go.Vm
set_option maxRecDepth 10000
set_option linter.unusedVariables false
def thrownM (e a : Int) : List PanicEntry := [{ v := .iface ty_msg_wrong (.agg ⟨[.int .i64 e, .int .i64 a]⟩), recovered := false }]
theorem mustM_yes {h : Heap} {e a : Int} : Runs Tryz.prog T0 (.fn fn_zbcQ) [.bool true, .int .i64 e, .int .i64 a] h (fun r h' => h' = h) (fun _ _ => False) := by
  refine zbcQ_runs ?_
  refine stp ?_
  rfl
theorem mustM_no {h : Heap} {e a : Int} : Runs Tryz.prog T0 (.fn fn_zbcQ) [.bool false, .int .i64 e, .int .i64 a] h (fun r h' => False) (fun c h' => c = thrownM e a ∧ h' = h) := by
  refine zbcQ_runs ?_
  refine stp ?_
  exact ⟨rfl, rfl⟩
theorem mustM_ok {h : Heap} {b : Bool} {e a : Int} : Runs Tryz.prog T0 (.fn fn_zbcQ) [.bool b, .int .i64 e, .int .i64 a] h (fun r h' => b = true ∧ h' = h) (fun c h' => b = false ∧ c = thrownM e a ∧ h' = h) := by
  cases b with
  | true => exact mustM_yes.mono (fun _ _ h => ⟨rfl, h⟩) (fun _ _ h => h.elim)
  | false => exact mustM_no.mono (fun _ _ h => h.elim) (fun _ _ h => ⟨rfl, h⟩)
def numM (n : Int) : Prop := 1 ≤ n ∧ n ≤ 1099511627776
def heiM (n : Int) : Prop := 1 ≤ n ∧ n ≤ 1073741824
instance (n : Int) : Decidable (numM n) := by unfold numM; infer_instance
instance (n : Int) : Decidable (heiM n) := by unfold heiM; infer_instance
theorem number_okM {h : Heap} {n : Int} : Runs Tryz.prog T0 (.fn fn_zccQ) [.int .i64 n] h (fun r h' => r = .bool (decide (numM n)) ∧ h' = h) (fun _ _ => False) := by
  refine zccQ_runs ?_
  refine stp ?_
  refine O.dec (fun h1 => ?_) (fun h1 => ?_)
  · refine stp ?_
    exact ⟨by congr 1; exact decide_eq_decide.2 ⟨fun h => ⟨h1, h⟩, fun h => h.2⟩, rfl⟩
  · refine stp ?_
    exact ⟨by congr 1; exact (decide_eq_false fun h => h1 h.1).symm, rfl⟩
theorem height_okM {h : Heap} {n : Int} : Runs Tryz.prog T0 (.fn fn_zacQ) [.int .i64 n] h (fun r h' => r = .bool (decide (heiM n)) ∧ h' = h) (fun _ _ => False) := by
  refine zacQ_runs ?_
  refine stp ?_
  refine O.dec (fun h1 => ?_) (fun h1 => ?_)
  · refine stp ?_
    exact ⟨by congr 1; exact decide_eq_decide.2 ⟨fun h => ⟨h1, h⟩, fun h => h.2⟩, rfl⟩
  · refine stp ?_
    exact ⟨by congr 1; exact (decide_eq_false fun h => h1 h.1).symm, rfl⟩
theorem PRs.rest {h : Heap} {p : Nat} {sv : Value} {bs : List UInt8} {st : RSt} (hp : PRs h p sv bs st) : 0 ≤ restS bs st ∧ restS bs st ≤ bs.length := by
  unfold restS
  by_cases he : st.e = 0
  · have := hp.le he
    rw [if_pos he]; omega
  · rw [if_neg he]; omega
theorem at_okM {h : Heap} {p : Nat} {sv : Value} {bs : List UInt8} {st : RSt} (hp : PRs h p sv bs st) :
    Runs Tryz.prog T0 (.fn fn_zecQ) [.agg ⟨[.pointer (some ⟨p, 0, none⟩), .int .i64 bs.length]⟩] h (fun r h' => r = .int .i64 ((bs.length : Int) - restS bs st) ∧ Fr (fun _ => False) h h') (fun _ _ => False) := by
  have hrest := hp.rest
  have hsm := hp.small
  have k := Rest_run (hp.none (Fr.refl.push (o := .cells [.pointer (some ⟨p, 0, none⟩), .int .i64 bs.length] 0)))
  generalize restS bs st = rest at *
  refine zecQ_runs ?_
  refine stp ?_
  refine D.callX k (fun r h1 hr => ?_) (fun r h1 hr => ?_) (fun _ _ hx => hx.elim)
  · obtain ⟨rfl, rfl⟩ := hr
    exact StabL.ok
  obtain ⟨rfl, rfl⟩ := hr
  refine stp ?_
  exact ⟨rfl, Fr.refl.push⟩
theorem endS_fst {bs : List UInt8} {st : RSt} (h : (endS bs st).1 = 0) : st.e = 0 := by
  unfold endS at h
  split at h
  · cases h
  · exact h
theorem fine_ok {h : Heap} {p : Nat} {sv : Value} {bs : List UInt8} {st : RSt} (hp : PRs h p sv bs st) :
    Runs Tryz.prog T0 (.fn fn_zfcQ) [.agg ⟨[.pointer (some ⟨p, 0, none⟩), .int .i64 bs.length]⟩] h (fun r h' => st.e = 0 ∧ Fr (fun _ => False) h h') (fun c h' => st.e ≠ 0 ∧ c = thrownM st.e st.fa ∧ Fr (fun _ => False) h h') := by
  have hrest := hp.rest
  have hfst := endS_fst (bs := bs) (st := st)
  have hE : st.e ≠ 0 → endS bs st = (st.e, st.fa) := fun he => by
    unfold endS
    rw [if_neg (fun h => he h.1)]
  have hR : st.e ≠ 0 → restS bs st = 0 := fun he => by
    unfold restS
    rw [if_neg he]
  have hR0 : st.e = 0 → (endS bs st).1 ≠ 0 → 0 < restS bs st := fun he h => by
    unfold endS at h
    split at h
    · rename_i h2
      unfold restS
      rw [if_pos he]
      omega
    · exact absurd he h
  have hp1 := hp.none (Fr.refl.push (o := .cells [.pointer (some ⟨p, 0, none⟩), .int .i64 bs.length] 0))
  have k1 := End_run hp1
  refine zfcQ_runs ?_
  refine stp ?_
  refine O.call' k1 (fun r h1 hr => ?_)
  obtain ⟨rfl, hf1⟩ := hr
  have hn1 := hf1.n
  simp only [Heap.n_push] at hn1
  haveI hA1 : HGet h1 h.n _ := hf1.keep (b := h.n) HGet.new (by simp) id
  have hfh1 : Fr (fun _ => False) h h1 := Fr.trans (S := fun _ => False) Fr.refl.push hf1 fun _ _ h => h
  haveI : BLt h.n h1 := ⟨by omega⟩
  haveI : BNe h.n h1.n := ⟨by omega⟩
  haveI : BNe h1.n h.n := ⟨by omega⟩
  generalize hF : endS bs st = F at *
  obtain ⟨E, A⟩ := F
  simp only at hfst hE hR0 ⊢
  refine stp ?_
  refine D.dec (fun he => ?_) (fun he => ?_)
  · refine stp ?_
    refine D.skF ?_ ?_
    · exact StabL.ok
    refine stp ?_
    refine D.callX mustM_ok (fun _ _ _ => rfl) (fun r h2 hr => ?_) (fun c h2 hx => ⟨rfl, ?_⟩)
    · obtain ⟨_, rfl⟩ := hr
      refine stp ?_
      exact ⟨hfst he, hfh1.push⟩
    · exact absurd hx.1 (by simp)
  · refine stp ?_
    refine D.callT (Rest_run ((hp1.none hf1).none Fr.refl.push)) (fun r h2 hr => ?_) (fun r h2 hr => ?_)
    · obtain ⟨rfl, rfl⟩ := hr
      exact StabL.ok
    obtain ⟨rfl, rfl⟩ := hr
    refine stp ?_
    refine D.callX mustM_ok (fun _ _ _ => rfl) (fun r h2 hr => ?_) (fun c h2 hx => ⟨rfl, ?_⟩)
    · obtain ⟨hb, rfl⟩ := hr
      have hb := of_decide_eq_true hb
      refine stp ?_
      refine ⟨?_, hfh1.push⟩
      by_cases h0 : st.e = 0
      · exact h0
      · have := hR h0; omega
    · obtain ⟨hb, rfl, rfl⟩ := hx
      have hb := of_decide_eq_false hb
      refine stp ?_
      have h0 : st.e ≠ 0 := fun h0 => hb (hR0 h0 he)
      obtain ⟨rfl, rfl⟩ := Prod.mk.inj (hE h0)
      exact ⟨h0, rfl, hfh1.push⟩
theorem numr_ok {h : Heap} {p : Nat} {sv : Value} {bs : List UInt8} {st : RSt} {fid : FuncId} {M : Int → Prop} [∀ n, Decidable (M n)] (hp : PRs h p sv bs st)
    (hm : ∀ {h : Heap} {n : Int}, Runs Tryz.prog T0 (.fn fid) [.int .i64 n] h (fun r h' => r = .bool (decide (M n)) ∧ h' = h) (fun _ _ => False)) :
    Runs Tryz.prog T0 (.fn fn_zgcQ) [.agg ⟨[.pointer (some ⟨p, 0, none⟩), .int .i64 bs.length]⟩, .func (.func fid) ⟨[]⟩ ⟨[]⟩] h
      (fun r h' => (rd (numS bs) 0 st).2.e = 0 ∧ M (rd (numS bs) 0 st).1 ∧ r = .int .i64 ((rd (numS bs) 0 st).1 : Nat) ∧ PRs h' p sv bs (rd (numS bs) 0 st).2 ∧ Fr (fun i => i = p) h h')
      (fun c h' => ∃ e a, c = thrownM e a ∧ Fr (fun i => i = p) h h' ∧ (((rd (numS bs) 0 st).2.e ≠ 0 ∧ e = (rd (numS bs) 0 st).2.e ∧ a = (rd (numS bs) 0 st).2.fa) ∨ ((rd (numS bs) 0 st).2.e = 0 ∧ ¬ M (rd (numS bs) 0 st).1 ∧ e = 3 ∧ a = (bs.length : Int) - restS bs st))) := by
  have hpl := hp.lt
  have hp1 := hp.none (Fr.refl.push (o := .cells [.pointer (some ⟨p, 0, none⟩), .int .i64 bs.length] 0))
  refine zgcQ_runs ?_
  refine stp ?_
  refine O.call' (at_okM hp1) (fun r h1 hr => ?_)
  obtain ⟨rfl, hf1⟩ := hr
  generalize restS bs st = rest at *
  have hn1 := hf1.n
  simp only [Heap.n_push] at hn1
  haveI hA1 : HGet h1 h.n _ := hf1.keep (b := h.n) HGet.new (by simp) id
  have hfh1 : Fr (fun _ => False) h h1 := Fr.trans (S := fun _ => False) Fr.refl.push hf1 fun _ _ h => h
  refine stp ?_
  have k2 := Num_run (hp1.none hf1)
  generalize rd (numS bs) 0 st = y at *
  obtain ⟨n, st1⟩ := y
  refine O.call' k2 (fun r h2 hr => ?_)
  obtain ⟨hf2, rfl, hr2⟩ := hr
  simp only at hr2 ⊢
  have hn2 := hf2.n
  haveI hA2 : HGet h2 h.n _ := hf2.keep hA1 (by omega) (by omega)
  have hfh2 : Fr (fun i => i = p) h h2 := (hfh1.mono fun _ _ h => h.elim).trans' hf2
  refine stp ?_
  refine O.callX (fine_ok hr2) (fun r h3 hr => ?_) (fun c h3 hx => ?_)
  · obtain ⟨he, hf3⟩ := hr
    have hfh3 : Fr (fun i => i = p) h h3 := hfh2.trans' (hf3.mono fun _ _ h => h.elim)
    refine stp ?_
    refine O.call' (hm (n := (n : Nat))) (fun r h4 hr => ?_)
    obtain ⟨rfl, rfl⟩ := hr
    refine stp ?_
    refine O.callX mustM_ok (fun r h5 hr => ?_) (fun c h5 hx => ?_)
    · obtain ⟨hb, rfl⟩ := hr
      refine stp ?_
      exact ⟨he, of_decide_eq_true hb, rfl, hr2.none hf3, hfh3⟩
    · obtain ⟨hb, rfl, rfl⟩ := hx
      refine stp ?_
      exact ⟨3, _, rfl, hfh3, .inr ⟨he, of_decide_eq_false hb, rfl, rfl⟩⟩
  · obtain ⟨he, rfl, hf3⟩ := hx
    refine stp ?_
    exact ⟨_, _, rfl, hfh2.trans' (hf3.mono fun _ _ h => h.elim), .inl ⟨he, rfl, rfl⟩⟩
end Go.Proofs.YtninaabbojcdpaaGreat.A

namespace Go.Proofs.YtninaabbojcdpaaGreat.A
open Go Go.Vm
set_option maxRecDepth 10000
set_option linter.unusedVariables false
structure Ms where
  kind : Int
  id : Int
  ht : Int
  aid : Int
  b : Bk
abbrev Ms.cells (x : Ms) (sv sl : Value) : List Value := .int .i64 x.kind :: .int .i64 x.id :: .int .i64 x.ht :: .int .i64 x.aid :: x.b.cells sv sl
abbrev zMs : Ms := ⟨0, 0, 0, 0, zBk⟩
abbrev zMc : List Value := .int .i64 0 :: .int .i64 0 :: .int .i64 0 :: .int .i64 0 :: zBc
def endM (bs : List UInt8) (st : RSt) (x : Ms) : Ms × Int × Int := if endS bs st = (0, 0) then (x, (0, 0)) else (zMs, endS bs st)
def decM (bs : List UInt8) : Ms × Int × Int :=
  if 65536 < bs.length then (zMs, (4, 65536)) else
  let k := rd (numS bs) 0 ⟨0, 0, 0⟩
  if k.2.e = 0 then
    if k.1 = 1 ∨ k.1 = 2 then
      let i := rd (numS bs) 0 k.2
      if i.2.e = 0 then
        if numM (i.1 : Nat) then
          if k.1 = 1 then
            let t := rd (numS bs) 0 i.2
            if t.2.e = 0 then
              if heiM (t.1 : Nat) then endM bs t.2 ⟨1, (i.1 : Nat), (t.1 : Nat), 0, zBk⟩ else (zMs, (3, (i.2.pl : Int)))
            else (zMs, (t.2.e, t.2.fa))
          else
            let b := rd (bytesS bs 65536) [] i.2
            if b.2.e = 0 then
              if (decB b.1).2 = (0, 0) then endM bs b.2 ⟨2, 0, 0, (i.1 : Nat), (decB b.1).1⟩ else (zMs, (5, (i.2.pl : Int)))
            else (zMs, (b.2.e, b.2.fa))
        else (zMs, (3, (k.2.pl : Int)))
      else (zMs, (i.2.e, i.2.fa))
    else (zMs, (5, 0))
  else (zMs, (k.2.e, k.2.fa))
theorem mcaught_none {h : Heap} {v w : Value} : RunDf Tryz.prog T0 fn_zwbQ [v, w] .returning h (fun u h' => u = .returning ∧ h' = h) (fun _ _ _ => False) := by
  refine zwbQ_df ?_
  refine dstp ?_
  exact ⟨rfl, rfl⟩
theorem mcaught_ok {h : Heap} {m f : Nat} {c : List Value} {e a g d : Int} (hm : h.get m = .cells c 0) (hov : Over c 0 zMc zMc) (hf : h.get f = .cells [.int .i64 g, .int .i64 d] 0) (hml : m < h.n) (hfl : f < h.n) (hne : m ≠ f) :
    RunDf Tryz.prog T0 fn_zwbQ [.pointer (some ⟨m, 0, none⟩), .pointer (some ⟨f, 0, none⟩)] (.panicking (thrownM e a)) h
      (fun u h' => settle u = .returning ∧ h'.get m = .cells zMc 0 ∧ h'.get f = .cells [.int .i64 e, .int .i64 a] 0 ∧ Fr (fun i => i = m ∨ i = f) h h') (fun _ _ _ => False) := by
  haveI : HGet h m _ := ⟨hm⟩
  haveI : HGet h f _ := ⟨hf⟩
  haveI : BLt m h := ⟨hml⟩
  haveI : BLt f h := ⟨hfl⟩
  haveI : BNe m f := ⟨hne⟩
  haveI : BNe f m := ⟨Ne.symm hne⟩
  haveI := hov
  refine zwbQ_df ?_
  refine dstp ?_
  refine RunT.drawn ?_ (by simp)
  refine stp ?_
  refine D.one0S ?_
  refine stp ?_
  refine dstp ?_
  refine ⟨rfl, HGet.eq, HGet.eq, ?_⟩
  exact Fr.set (Fr.set Fr.refl.push fun _ => .inl rfl) fun _ => .inr rfl
end Go.Proofs.YtninaabbojcdpaaGreat.A
