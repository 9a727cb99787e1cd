/- Contracts of functions, over the machine. -/
import Derived.Test.YtagmnpeilgnbdaaQSigsActs3
import Derived.Test.YtagmnpeilgnbdaaVK
import Derived.Test.YtagmnpeilgnbdaaVJ
set_option linter.unusedSimpArgs false
set_option linter.unusedSectionVars false
noncomputable section
set_option maxRecDepth 100000
set_option linter.unusedVariables false
namespace Go.Proofs.Ytagmnpeilgnbdaa.A
open Go Go.Vm
abbrev fn_ziQ : FuncId := 3
def ziQ_l0 : ACode :=
 (.seq (.seq (.region [
 o1 34 (.mov (tm 7)),
 o1 35 (.eq .ptr true (so (.binOp .neq 28 (tm 34) (.const (.pointer none)) 28) 4) (tm 34) (.const (.pointer none))),
 o1 36 (.mov (tm 35)),
 o4 37 (.mov (tm 9)) 36,
 o4 38 (.mov (tm 1)) 36,
 o4 39 (.lenSl (tm 38)) 36,
 o4 40 (.bin .lss (so (.binOp .lss 3 (tm 37) (tm 39) 3) 4) (tm 37) (tm 39)) 36,
 o1 41 (.pick (tm 36) (tm 40) (.const (.bool false)))]) (.cond (tm 41)
 .skip
 (.exit 0))) (.seq (.block 1 (.seq (.regionD [
 o1 44 (.mov (tm 5)),
 o1 45 (.mov (tm 1)),
 o1 46 (.mov (tm 9)),
 o1 47 (.indexSl 37 (tm 45) (tm 46)),
 o1 48 (.load (some 37) (tm 47)),
 o1 50 (.mov (tm 7)),
 o1 51 (.mov (tm 1)),
 o1 52 (.mov (tm 9)),
 o1 53 (.indexSl 37 (tm 51) (tm 52)),
 o1 54 (.load (some 37) (tm 53)),
 ⟨some 49, .callV (.func 11) [(tm 44), (tm 48)], none, [(some 54, .load (some 37) (tm 53), none), (some 53, .indexSl 37 (tm 51) (tm 52), none), (some 52, .mov (tm 9), none), (some 51, .mov (tm 1), none), (some 50, .mov (tm 7), none)], false⟩,
 o2 55 (.callV (.func 12) [(tm 50), (tm 54)]),
 o2 56 (.bin .neq (so (.binOp .neq 25 (tm 49) (tm 55) 25) 4) (tm 49) (tm 55)),
 o2 57 (.mov (tm 56)),
 o5 58 (.mov (tm 5)) 57,
 o5 59 (.mov (tm 7)) 57,
 o5 60 (.mov (tm 1)) 57,
 o5 61 (.mov (tm 1)) 57,
 o5 62 (.lenSl (tm 61)) 57,
 o5 63 (.bin .sub (so (.binOp .sub 3 (tm 62) (.const (.int .i64 1)) 3) 3) (tm 62) (.const (.int .i64 1))) 57,
 o5 64 (.mov (tm 9)) 57,
 o5 65 (.bin .sub (so (.binOp .sub 3 (tm 63) (tm 64) 3) 3) (tm 63) (tm 64)) 57,
 o5 66 (.indexSl 37 (tm 60) (tm 65)) 57,
 o5 67 (.load (some 37) (tm 66)) 57,
 ⟨some 68, .callV (.func 13) [(tm 58), (tm 59), (tm 67)], some (57, false), [], true⟩,
 ⟨some 69, .raw (so (.unOp .not 4 (tm 68)) 4), some (57, false), [], true⟩,
 o2 70 (.pick (tm 57) (.const (.bool true)) (tm 69))]) (.cond (tm 70)
 (.seq (.region [
 o1 4 (.mov (.const (.bool false)))]) .ret)
 .skip))) (.region [
 o1 42 (.mov (tm 9)),
 o1 43 (.bin .add (so (.binOp .add 3 (tm 42) (.const (.int .i64 1)) 3) 3) (tm 42) (.const (.int .i64 1))),
 o1 9 (.mov (tm 43))])))
def ziQ_c : ACode :=
 (.seq (.region [
 o1 4 (.mov (.const (.bool false)))]) (.seq (.seq (.region [
 o1 10 (.mov (tm 1)),
 o1 11 (.lenSl (tm 10)),
 o1 12 (.bin .gtr (so (.binOp .gtr 3 (tm 11) (.const (.int .i64 60)) 3) 4) (tm 11) (.const (.int .i64 60)))]) (.cond (tm 12)
 (.seq (.region [
 o1 13 (.callV (.func 8) []),
 o1 4 (.mov (tm 13))]) .ret)
 .skip)) (.seq (.region [
 o1 15 (.mov (tm 0)),
 o1 16 (.callV (.func 9) [(tm 15)]),
 o1 14 (.mov (tm 16)),
 o1 17 (.extract 0 (tm 14)),
 o1 18 (.extract 1 (tm 14)),
 o1 5 (.mov (tm 17)),
 o1 6 (.mov (tm 18))]) (.seq (.region [
 o1 20 (.mov (tm 0)),
 o1 21 (.callV (.func 10) [(tm 20)]),
 o1 19 (.mov (tm 21)),
 o1 22 (.extract 0 (tm 19)),
 o1 23 (.extract 1 (tm 19)),
 o1 7 (.mov (tm 22)),
 o1 8 (.mov (tm 23))]) (.seq (.seq (.region [
 o1 24 (.mov (tm 6)),
 o1 25 (.mov (tm 8)),
 o1 26 (.bin .neq (so (.binOp .neq 25 (tm 24) (tm 25) 25) 4) (tm 24) (tm 25)),
 o1 27 (.mov (tm 26)),
 o5 28 (.mov (tm 5)) 27,
 o5 29 (.eq .ptr false (so (.binOp .eql 24 (tm 28) (.const (.pointer none)) 24) 4) (tm 28) (.const (.pointer none))) 27,
 o5 30 (.mov (tm 7)) 27,
 o5 31 (.eq .ptr false (so (.binOp .eql 28 (tm 30) (.const (.pointer none)) 28) 4) (tm 30) (.const (.pointer none))) 27,
 o5 32 (.bin .neq (so (.binOp .neq 4 (tm 29) (tm 31) 4) 4) (tm 29) (tm 31)) 27,
 o1 33 (.pick (tm 27) (.const (.bool true)) (tm 32))]) (.cond (tm 33)
 (.seq (.region [
 o1 4 (.mov (.const (.bool false)))]) .ret)
 .skip)) (.seq (.seq (.region [
 o1 9 (.mov k0)]) (.block 0 (.loop ziQ_l0))) (.seq (.region [
 o1 71 (.callV (.func 8) []),
 o1 4 (.mov (tm 71))]) .ret)))))))
def ziQ : AFunc := ⟨72, [(4, none)], ziQ_c, none⟩
theorem ziQ_t0 : tableOf Try.prog 3 = some ziQ := by kernel_rfl
theorem ziQ_t : T0 3 = some ziQ := withKept_t rfl (withTrue_t rfl ziQ_t0)
theorem ziQ_runs {v0 v1 : Value} {h : Heap} {R : RP} {X : XP} (k : RunC Try.prog T0 ziQ_c ⟨[v0, v1, U, U, U, U, U, U, U, U, U, U, U, U, U, U, U, U, U, U, U, U, U, U, U, U, U, U, U, U, U, U, U, U, U, U, U, U, U, U, U, U, U, U, U, U, U, U, U, U, U, U, U, U, U, U, U, U, U, U, U, U, U, U, U, U, U, U, U, U, U, U], [], h, none⟩ (bodyQ Try.prog T0 [(4, none)] R X)) :
 Runs Try.prog T0 (.fn 3) [v0, v1] h R X := Runs.fn ziQ_t rfl k
abbrev ziQ_l0_M : List Nat := [0, 0, 0, 0, 1, 0, 0, 0, 0, 2, 0, 0, 0, 0, 0, 0, 0, 0, 0, 0, 0, 0, 0, 0, 0, 0, 0, 0, 0, 0, 0, 0, 0, 0, 1, 1, 1, 1, 1, 1, 1, 1, 1, 1, 1, 1, 1, 1, 1, 1, 1, 1, 1, 1, 1, 1, 1, 1, 1, 1, 1, 1, 1, 1, 1, 1, 1, 1, 1, 1, 1, 0]
end Go.Proofs.Ytagmnpeilgnbdaa.A

namespace Go.Proofs.Ytagmnpeilgnbdaa.A
open Go Go.Vm
set_option maxRecDepth 10000
set_option linter.unusedVariables false
theorem sig_cells {h : Heap} {b o n k : Nat} {l : List Sg} (hc : cellsAt h b o (n * 37) = some (gcells l)) (hn : l.length = n) (hk : k < n) : Cells h b (o + k * 37) 37 (at' l k).cells := ⟨by
  have h1 := (gsub (l := l) (j := []) (i := k) (by omega)).eq
  rw [List.append_nil] at h1
  rw [cellsAt_sub hc (by omega), h1]⟩
theorem add_pos {most : Int} {L : List Sg} {s : Sg} (hp : ∀ s ∈ L, 0 ≤ s.sg) (hs : 0 ≤ s.sg) : ∀ x ∈ (addG most L s).1, 0 ≤ x.sg := by
  intro x hx
  unfold addG at hx
  split at hx
  · exact hp x hx
  · split at hx
    · exact hp x hx
    · rcases List.mem_cons.1 (insG_perm.mem_iff.1 hx) with rfl | q
      · exact hs
      · exact hp x q
theorem add_len {most : Int} {L : List Sg} {s : Sg} : (addG most L s).1.length ≤ L.length + 1 := by
  unfold addG
  split
  · simp
  · split
    · simp
    · rw [insG_len]; omega
set_option maxHeartbeats 64000000 in
theorem SigsActs_true {h : Heap} {most : Int} {v : Value} {l : List Sg} (hv : Rd h 37 v (gcells l) l.length) (hp : ∀ s ∈ l, 0 ≤ s.sg) :
    Runs Try.prog T0 (.fn fn_ziQ) [.int .i64 most, v] h (fun r h' => r = .bool true) (fun _ _ => False) := by
  obtain ⟨av, cv, rfl, hvl, hvc⟩ := id hv
  haveI qn : ∀ {ts : List Value} {h : Heap} {Q0 : Oper} {x z : Operand} {p : Int} [Ev ts x (.int .i64 p)] [Ev ts z (.int .i64 p)], XOp Try.prog ts h (.bin .neq Q0 x z) (.bool false) h := xneqI0 rfl
  refine ziQ_runs ?_
  refine stp ?_
  refine C.if (fun hlong => ?_) (fun hshort => ?_)
  · refine stp ?_
    refine O.call' zmQ_known (fun r h2 hr => ?_)
    obtain ⟨rfl, rfl⟩ := hr
    refine stp ?_
    rfl
  refine stp ?_
  by_cases hm : most < 0 ∨ 4096 < most
  · refine O.call' (gNew_bad hm) (fun r h1 hr => ?_)
    obtain ⟨rfl, rfl⟩ := hr
    refine stp ?_
    refine O.call' (RNewG_bad hm) (fun r h2 hr => ?_)
    obtain ⟨rfl, rfl⟩ := hr
    refine stp ?_
    refine loop1 ziQ_l0_M 9 (fun q v9 hx => v9 = .int .i64 0) ?_ 0 rfl
    rintro m v9 h' x4 x34 x35 x36 x37 x38 x39 x40 x41 x42 x43 x44 x45 x46 x47 x48 x49 x50 x51 x52 x53 x54 x55 x56 x57 x58 x59 x60 x61 x62 x63 x64 x65 x66 x67 x68 x69 x70 rfl
    refine stp ?_
    refine O.call' zmQ_known (fun r h3 hr => ?_)
    obtain ⟨rfl, rfl⟩ := hr
    refine stp ?_
    rfl
  refine O.call' (gNew_ok (by omega) (by omega)) (fun r h1 hr => ?_)
  obtain ⟨rfl, ha, f1⟩ := hr
  refine stp ?_
  refine O.call' (RNewG_ok (by omega) (by omega)) (fun r h2 hr => ?_)
  obtain ⟨rfl, hd, f2⟩ := hr
  have n1 := f1.n
  have n2 := f2.n
  have l1 := ha.lp
  refine stp ?_
  refine loop1 ziQ_l0_M 9 (fun q v9 hx => ∃ (k : Nat) (L : List Sg) (c : Nat) (l' : List GEnt) (v' : Value), k ≤ l.length ∧ q = l.length - k ∧ v9 = .int .i64 k ∧ TbAt hx (h.n + 1) h.n c l' most L ∧ DbAt hx h1.n v' most L ∧ (∀ s ∈ L, 0 ≤ s.sg) ∧ L.length ≤ k ∧ (∀ i, ownedBy v' i → h1.n ≤ i) ∧ Fr (fun _ => False) h hx) ?_ l.length ⟨0, [], 0, [], _, by omega, rfl, rfl, ha.keep f2 id id, hd, by simp, by simp, fun i hi => hi.elim, f1.trans' f2⟩
  clear ha hd f1 f2
  rintro m v9 h' x4 x34 x35 x36 x37 x38 x39 x40 x41 x42 x43 x44 x45 x46 x47 x48 x49 x50 x51 x52 x53 x54 x55 x56 x57 x58 x59 x60 x61 x62 x63 x64 x65 x66 x67 x68 x69 x70 ⟨k, L, c, l', v', hk, rfl, rfl, ha, hd, hpL, hLk, hnew, hF⟩
  rcases Nat.lt_or_ge k l.length with hlt | hge
  case inr =>
    haveI q1 : ∀ {ts : List Value} {h : Heap} {O : Oper} {x z : Operand} [Ev ts x (.int .i64 (k : Nat))] [Ev ts z (.int .i64 (l.length : Nat))], XOp Try.prog ts h (.bin .lss O x z) (.bool false) h := xlss0 (by omega)
    refine stp ?_
    refine O.call' zmQ_known (fun r h2 hr => ?_)
    obtain ⟨rfl, rfl⟩ := hr
    refine stp ?_
    rfl
  haveI q1 : ∀ {ts : List Value} {h : Heap} {O : Oper} {x z : Operand} [Ev ts x (.int .i64 (k : Nat))] [Ev ts z (.int .i64 (l.length : Nat))], XOp Try.prog ts h (.bin .lss O x z) (.bool true) h := xlss1 (by omega)
  obtain ⟨b, o, sp, rfl, hb, hcc⟩ := hvc (by omega)
  have cc : ∀ {g : Heap}, Fr (fun _ => False) h g → cellsAt g b o (l.length * 37) = some (gcells l) := fun hf => (cellsAt_keep hf hb id).trans hcc
  have hm1 := hp _ (at_mem hlt)
  have hm2 := hp _ (at_mem (show l.length - 1 - k < l.length by omega))
  haveI := sig_cells (cc hF) rfl hlt
  refine stp ?_
  refine D.callX (gAdd_ok ha (by omega)) (fun r h3 hr => ?_) (fun r h3 hr => ?_) (fun _ _ hx => hx.elim)
  · obtain ⟨rfl, _, f3⟩ := hr
    haveI := sig_cells (show cellsAt h3 b o (l.length * 37) = some (gcells l) from (cellsAt_keep f3 (hF.lt hb) (by omega)).trans (cc hF)) rfl hlt
    refine stab_cons inferInstance ?_
    refine stab_cons (XOp.mkIndexSl (by omega)) ?_
    repeat refine stab_cons inferInstance ?_
    rfl
  obtain ⟨rfl, ⟨c3, l3, ha3⟩, f3⟩ := hr
  have n3 := f3.n
  have hF3 : Fr (fun _ => False) h h3 := Fr.trans (S := fun _ => False) hF f3 fun i hi e => by omega
  have hd3 := hd.keep f3 (by omega) fun i hi e => by
    have := hnew i hi
    omega
  refine stp ?_
  refine D.callX (RAddG_ok hd3 ha.so (by omega)) (fun r h4 hr => ?_) (fun r h4 hr => ?_) (fun _ _ hx => hx.elim)
  · rfl
  obtain ⟨rfl, ⟨v4, hd4, hnew4⟩, f4⟩ := hr
  have n4 := f4.n
  have ha4 := ha3.keep f4 (by omega) (by omega)
  have hF4 : Fr (fun _ => False) h h4 := Fr.trans (S := fun _ => False) hF3 f4 fun i hi e => by omega
  haveI := sig_cells (k := l.length - 1 - k) (cc hF4) rfl (by omega)
  haveI : IdxOff o ((l.length : Int) - 1 - k) 37 (o + (l.length - 1 - k) * 37) := ⟨by congr 2; omega⟩
  refine stp ?_
  have hadd := add_len (most := most) (L := L) (s := at' l k)
  refine D.howT (XOp.mkIndexSl (by omega)) rfl ?_
  refine stp ?_
  refine D.callT (stands_ok ha4 hd4 (add_pos hpL hm1)) (fun r h5 hr => ?_) (fun r h5 hr => ?_)
  · rfl
  obtain ⟨rfl, f5⟩ := hr
  refine stp ?_
  refine loop1a 9 (l.length - (k + 1)) (by omega) ⟨k + 1, _, _, _, _, by omega, rfl, rfl, ha4.keep f5 id id, hd4.keep f5 id (fun _ _ => id), add_pos hpL hm1, by omega, fun i hi => ?_, hF4.trans' f5⟩
  rcases hnew4 i hi with q | q
  · exact hnew i q
  · have := hd.lw
    omega
end Go.Proofs.Ytagmnpeilgnbdaa.A

namespace Go.Proofs.Ytagmnpeilgnbdaa.A
open Go Go.Vm
set_option maxRecDepth 10000
set_option linter.unusedVariables false
theorem fits_bytes {h : Heap} {m : Nat} {te : TypeId} {c : List Value} {len : Nat} (hu : Try.prog.underlying te = some (.int .u8)) (hs : Try.prog.cellsOf te = 1) (hl : c.length = len * Try.prog.cellsOf te) (hall : ∀ i, i < len → Fits Try.prog h (m + 1) te ((c.drop (i * Try.prog.cellsOf te)).take (Try.prog.cellsOf te))) : ∃ bs : List UInt8, c = bcells bs ∧ bs.length = len := by
  rw [hs, Nat.mul_one] at hl
  induction c generalizing len with
  | nil => exact ⟨[], rfl, by simpa using hl⟩
  | cons v c ih =>
    cases len with
    | zero => simp at hl
    | succ len =>
      have h0 := hall 0 (by omega)
      rw [hs] at h0
      unfold Fits at h0
      rw [hu] at h0
      simp only [Nat.zero_mul, List.drop_zero, List.take_succ_cons, List.take_zero] at h0
      obtain ⟨x, hx, hwf⟩ := h0
      injection hx with hx _
      obtain ⟨bs, rfl, hb⟩ := ih (len := len) (by simpa using hl) fun i hi => by
        have := hall (i + 1) (by omega)
        rw [hs] at this ⊢
        simpa using this
      have hr : 0 ≤ x ∧ x ≤ 255 := by
        simp [Lit.wf, IntKind.min, IntKind.max, IntKind.signed, IntKind.bits] at hwf
        omega
      refine ⟨UInt8.ofNat x.toNat :: bs, ?_, by simp [hb]⟩
      rw [hx]
      show Value.int .u8 x :: bcells bs = Value.int .u8 ((UInt8.ofNat x.toNat).toNat : Nat) :: bcells bs
      rw [u8nat (by omega)]
      congr 2
      omega
end Go.Proofs.Ytagmnpeilgnbdaa.A

namespace Go.Proofs.Ytagmnpeilgnbdaa.A
open Go Go.Vm
set_option maxRecDepth 10000
set_option linter.unusedVariables false
theorem fits_flat32 {h : Heap} {m : Nat} {t te : TypeId} {c : List Value} (ht : Try.prog.underlying t = some (.array 32 te)) (hu : Try.prog.underlying te = some (.int .u8)) (hs : Try.prog.cellsOf te = 1) (hs32 : Try.prog.cellsOf t = 32) (hv : Fits Try.prog h (m + 2) t c) : ∃ bs : List UInt8, c = bcells bs ∧ bs.length = 32 := by
  unfold Fits at hv
  rw [ht] at hv
  exact fits_bytes hu hs (by rw [hv.1, hs32, hs]) hv.2
end Go.Proofs.Ytagmnpeilgnbdaa.A

namespace Go.Proofs.Ytagmnpeilgnbdaa.A
open Go Go.Vm
set_option maxRecDepth 100000
set_option linter.unusedVariables false
theorem four {l : List UInt8} (h : l.length = 4) : ∃ a b c d, l = [a, b, c, d] := by
  match l, h with
  | [a, b, c, d], _ => exact ⟨a, b, c, d, rfl⟩
theorem wf_u64 {x : Int} (h : (Lit.int .u64 x).wf = true) : 0 ≤ x ∧ x ≤ 18446744073709551615 := by
  simp [Lit.wf, IntKind.min, IntKind.max, IntKind.signed, IntKind.bits] at h
  omega
theorem sig_fitG {h : Heap} {m : Nat} {te tk th tb tu : TypeId} {c : List Value} (f0 : fieldAt Try.prog te 0 = some (0, tk)) (f1 : fieldAt Try.prog te 1 = some (4, th)) (f2 : fieldAt Try.prog te 2 = some (36, tu)) (uk : Try.prog.underlying tk = some (.array 4 tb)) (uh : Try.prog.underlying th = some (.array 32 tb)) (ub : Try.prog.underlying tb = some (.int .u8)) (uu : Try.prog.underlying tu = some (.int .u64))
    (ce : Try.prog.cellsOf te = 37) (ck : Try.prog.cellsOf tk = 4) (ch : Try.prog.cellsOf th = 32) (cb : Try.prog.cellsOf tb = 1) (cu : Try.prog.cellsOf tu = 1) (hv : Fits Try.prog h (m + 3) te c) : ∃ s : Sg, (0 ≤ s.sg ∧ s.sg < 18446744073709551616) ∧ c = s.cells := by
  have hlen := hv.len f0
  rw [ce] at hlen
  have hk := hv.field f0
  rw [ck] at hk
  have hb : ∃ bs : List UInt8, (c.drop 0).take 4 = bcells bs ∧ bs.length = 4 := by
    unfold Fits at hk
    rw [uk] at hk
    exact fits_bytes ub cb (by rw [hk.1, ck, cb]) hk.2
  obtain ⟨bs, hb1, hb2⟩ := hb
  obtain ⟨a0, a1, a2, a3, rfl⟩ := four hb2
  obtain ⟨hs, k1, k1l⟩ := fits_flat32 (m := m) uh ub cb ch (hv.field f1)
  rw [ch] at k1
  obtain ⟨x, k2, w2⟩ := (hv.field f2).int uu
  rw [cu] at k2
  have hx := wf_u64 w2
  refine ⟨⟨a0, a1, a2, a3, hs, x, k1l⟩, ⟨hx.1, by show x < _; omega⟩, ?_⟩
  rw [← List.drop_zero (l := c), vsplit c 0 4, hb1, vsplit c (0 + 4) 32, k1, vsplit c (0 + 4 + 32) 1, k2, show c.drop (0 + 4 + 32 + 1) = [] from List.drop_eq_nil_of_le (by omega), List.append_nil]
  rfl
theorem sigs_fit {h : Heap} {m : Nat} {te tk th tb tu : TypeId} (f0 : fieldAt Try.prog te 0 = some (0, tk)) (f1 : fieldAt Try.prog te 1 = some (4, th)) (f2 : fieldAt Try.prog te 2 = some (36, tu)) (uk : Try.prog.underlying tk = some (.array 4 tb)) (uh : Try.prog.underlying th = some (.array 32 tb)) (ub : Try.prog.underlying tb = some (.int .u8)) (uu : Try.prog.underlying tu = some (.int .u64))
    (ce : Try.prog.cellsOf te = 37) (ck : Try.prog.cellsOf tk = 4) (ch : Try.prog.cellsOf th = 32) (cb : Try.prog.cellsOf tb = 1) (cu : Try.prog.cellsOf tu = 1) :
    ∀ (len : Nat) (c : List Value), c.length = len * 37 → (∀ i, i < len → Fits Try.prog h (m + 3) te ((c.drop (i * 37)).take 37)) → ∃ l : List Sg, c = gcells l ∧ l.length = len ∧ ∀ s ∈ l, 0 ≤ s.sg ∧ s.sg < 18446744073709551616
  | 0, c, hl, _ => ⟨[], by simpa [gcells] using hl, rfl, by simp⟩
  | len + 1, c, hl, hall => by
    have h0 := hall 0 (by omega)
    rw [Nat.zero_mul, List.drop_zero] at h0
    obtain ⟨s, hs, e0⟩ := sig_fitG f0 f1 f2 uk uh ub uu ce ck ch cb cu h0
    obtain ⟨l, e1, e2, e3⟩ := sigs_fit f0 f1 f2 uk uh ub uu ce ck ch cb cu len (c.drop 37) (by rw [List.length_drop]; omega) fun i hi => by
      have := hall (i + 1) (by omega)
      rw [List.drop_drop]
      rw [show (i + 1) * 37 = 37 + i * 37 from by omega] at this
      exact this
    refine ⟨s :: l, ?_, by simp [e2], fun x hx => ?_⟩
    · rw [gcells_cons, ← e1, ← e0, List.take_append_drop]
    · rcases List.mem_cons.1 hx with rfl | q
      · exact hs
      · exact e3 x q
theorem fits_sigs {h : Heap} {t te tk th tb tu : TypeId} {v : Value} (ht : Try.prog.underlying t = some (.slice te)) (f0 : fieldAt Try.prog te 0 = some (0, tk)) (f1 : fieldAt Try.prog te 1 = some (4, th)) (f2 : fieldAt Try.prog te 2 = some (36, tu)) (uk : Try.prog.underlying tk = some (.array 4 tb)) (uh : Try.prog.underlying th = some (.array 32 tb)) (ub : Try.prog.underlying tb = some (.int .u8)) (uu : Try.prog.underlying tu = some (.int .u64))
    (ce : Try.prog.cellsOf te = 37) (ck : Try.prog.cellsOf tk = 4) (ch : Try.prog.cellsOf th = 32) (cb : Try.prog.cellsOf tb = 1) (cu : Try.prog.cellsOf tu = 1) (hv : FitsV Try.prog h 8 t v) :
    ∃ l : List Sg, Rd h 37 v (gcells l) l.length ∧ ∀ s ∈ l, 0 ≤ s.sg ∧ s.sg < 18446744073709551616 := by
  unfold FitsV at hv
  rw [ht] at hv
  unfold Fits at hv
  rw [ht] at hv
  rcases hv with hv | ⟨b, len, cap, c, hv, hb, hlc, hcap, hro, hl, hall⟩
  · injection hv with hv _
    subst hv
    exact ⟨[], Rd.nil, by simp⟩
  · rw [ce] at hl hall
    obtain ⟨l, rfl, e2, e3⟩ := sigs_fit (m := 4) f0 f1 f2 uk uh ub uu ce ck ch cb cu len c hl hall
    have hal := gcells_len l
    injection hv with hv _
    subst hv
    refine ⟨l, ⟨_, _, by rw [e2], hal, fun hn => ⟨b, 0, none, rfl, hb, ?_⟩⟩, e3⟩
    rw [cellsAt_of (c := gcells l) (by rw [hro (by omega)]; rfl) (by omega), List.drop_zero, List.take_of_length_le (by omega)]
end Go.Proofs.Ytagmnpeilgnbdaa.A

namespace Go.Proofs.Ytagmnpeilgnbdaa.A
open Go Go.Vm
set_option maxRecDepth 100000
set_option linter.unusedVariables false
theorem in_sigs {h : Heap} {v : Value} (hv : FitsV Try.prog h 8 22 v) : ∃ l : List Sg, Rd h 37 v (gcells l) l.length ∧ ∀ s ∈ l, 0 ≤ s.sg ∧ s.sg < 18446744073709551616 :=
  fits_sigs (te := 38) (tk := 33) (th := 35) (tb := 5) (tu := 36) (by kernel_rfl) (by kernel_rfl) (by kernel_rfl) (by kernel_rfl) (by kernel_rfl) (by kernel_rfl) (by kernel_rfl) (by kernel_rfl) (by kernel_rfl) (by kernel_rfl) (by kernel_rfl) (by kernel_rfl) (by kernel_rfl) hv
theorem SigsActs_run (h : Heap) (vs : List Value) (hf : FitsAll Try.prog h 8 [3, 22] vs) : Runs Try.prog T0 (.fn fn_ziQ) vs h (fun r _ => r = .bool true) (fun _ _ => False) := by
  obtain ⟨v1, _, rfl, h1, hf⟩ := hf.cons
  obtain ⟨v2, _, rfl, h2, hf⟩ := hf.cons
  obtain rfl := hf.nil
  obtain ⟨a, rfl, _⟩ := FitsV.int (k := .i64) h1 (by kernel_rfl)
  obtain ⟨l, hl, hp⟩ := in_sigs h2
  exact SigsActs_true hl fun s hs => (hp s hs).1
end Go.Proofs.Ytagmnpeilgnbdaa.A

namespace Go.Proofs.Ytagmnpeilgnbdaa.A
open Go Go.Vm
set_option maxRecDepth 100000
theorem ran_8 : allTrue (xcall Try.prog (tableOf Try.prog) 1000 60 (.fn 8) [] Heap.init) = true := by kernel_rfl
theorem has_8 : (tableOf Try.prog 8).isSome = true := by kernel_rfl
theorem known : KnownAll Try.prog prims := ⟨⟨Option.isSome_iff_exists.1 has_8, fun w => known_calls (Checked.mixed Try.checked) tableOf_ok ran_8 w⟩, trivial⟩
theorem T0_ok : TableOK Try.prog T0 := withKept_ok (withTrue_ok known) fun k hk => by simp at hk
end Go.Proofs.Ytagmnpeilgnbdaa.A
