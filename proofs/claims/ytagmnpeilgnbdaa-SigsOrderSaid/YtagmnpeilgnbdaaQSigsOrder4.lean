/- Contracts of functions, over the machine. -/
import Derived.Test.YtagmnpeilgnbdaaQSigsOrder3
import Derived.Test.YtagmnpeilgnbdaaVK
import Derived.Test.YtagmnpeilgnbdaaVJ
import Derived.Test.YtagmnpeilgnbdaaRows
import Derived.Test.YtagmnpeilgnbdaaVL
set_option linter.unusedSimpArgs false
set_option linter.unusedSectionVars false
noncomputable section
set_option maxRecDepth 100000
set_option linter.unusedVariables false
namespace Go.Proofs.Ytagmnpeilgnbdaa.A
open Go Go.Vm
abbrev fn_zlQ : FuncId := 6
def zlQ_l0 : ACode :=
 (.seq (.seq (.region [
 o1 45 (.mov (tm 10)),
 o1 46 (.mov (tm 0)),
 o1 47 (.lenSl (tm 46)),
 o1 48 (.bin .lss (so (.binOp .lss 3 (tm 45) (tm 47) 3) 4) (tm 45) (tm 47))]) (.cond (tm 48)
 .skip
 (.exit 0))) (.seq (.block 1 (.seq (.region [
 o1 51 (.mov (tm 6)),
 o1 52 (.mov (tm 0)),
 o1 53 (.mov (tm 10)),
 o1 54 (.indexSl 37 (tm 52) (tm 53)),
 o1 55 (.load (some 37) (tm 54)),
 o1 56 (.callV (.func 15) [(tm 51), (tm 55)]),
 o1 11 (.mov (tm 56))]) (.seq (.seq (.region [
 o1 57 (.mov (tm 6)),
 o1 58 (.mov (tm 0)),
 o1 59 (.mov (tm 10)),
 o1 60 (.indexSl 37 (tm 58) (tm 59)),
 o1 61 (.load (some 37) (tm 60)),
 o1 62 (.callV (.func 11) [(tm 57), (tm 61)]),
 o1 63 (.bin .eql (so (.binOp .eql 25 (tm 62) (.const (.int .i64 8)) 25) 4) (tm 62) (.const (.int .i64 8))),
 o1 64 (.mov (tm 11)),
 o1 65 (.bin .neq (so (.binOp .neq 4 (tm 63) (tm 64) 4) 4) (tm 63) (tm 64)),
 o1 66 (.mov (tm 65)),
 o5 67 (.mov (tm 6)) 66,
 o5 68 (.mov (tm 0)) 66,
 o5 69 (.mov (tm 10)) 66,
 o5 70 (.indexSl 37 (tm 68) (tm 69)) 66,
 o5 71 (.load (some 37) (tm 70)) 66,
 o5 72 (.callV (.func 15) [(tm 67), (tm 71)]) 66,
 o5 73 (.raw (so (.unOp .not 4 (tm 72)) 4)) 66,
 o1 74 (.pick (tm 66) (.const (.bool true)) (tm 73))]) (.cond (tm 74)
 (.seq (.region [
 o1 4 (.mov (.const (.bool false)))]) .ret)
 .skip)) (.region [
 o1 75 (.mov (tm 8)),
 o1 76 (.mov (tm 0)),
 o1 77 (.mov (tm 10)),
 o1 78 (.mov (tm 1)),
 o1 79 (.mov (tm 0)),
 o1 80 (.lenSl (tm 79)),
 o1 81 (.callV (.func 24) [(tm 78), (tm 80)]),
 o1 82 (.bin .add (so (.binOp .add 3 (tm 77) (tm 81) 3) 3) (tm 77) (tm 81)),
 o1 83 (.mov (tm 0)),
 o1 84 (.lenSl (tm 83)),
 o1 85 (.bin .rem (so (.binOp .rem 3 (tm 82) (tm 84) 3) 3) (tm 82) (tm 84)),
 o1 86 (.indexSl 37 (tm 76) (tm 85)),
 o1 87 (.load (some 37) (tm 86)),
 o1 88 (.callV (.func 11) [(tm 75), (tm 87)])])))) (.region [
 o1 49 (.mov (tm 10)),
 o1 50 (.bin .add (so (.binOp .add 3 (tm 49) (.const (.int .i64 1)) 3) 3) (tm 49) (.const (.int .i64 1))),
 o1 10 (.mov (tm 50))])))
def zlQ_l1 : ACode :=
 (.seq (.seq (.region [
 o1 117 (.mov (tm 17)),
 o1 118 (.mov (tm 15)),
 o1 119 (.lenSl (tm 118)),
 o1 120 (.bin .lss (so (.binOp .lss 3 (tm 117) (tm 119) 3) 4) (tm 117) (tm 119))]) (.cond (tm 120)
 .skip
 (.exit 4))) (.seq (.block 5 (.seq (.regionD [
 o2 123 (.mov (tm 16)),
 o2 124 (.mov (tm 123)),
 o5 125 (.mov (tm 15)) 124,
 o5 126 (.mov (tm 17)) 124,
 o5 127 (.indexSl 4 (tm 125) (tm 126)) 124,
 o5 128 (.load (some 4) (tm 127)) 124,
 o5 129 (.mov (tm 12)) 124,
 o5 130 (.mov (tm 14)) 124,
 o5 131 (.indexSl 37 (tm 129) (tm 130)) 124,
 o5 132 (.fieldAddr 0 (tm 131)) 124,
 o5 133 (.load (some 4) (tm 132)) 124,
 ⟨some 134, .bin .eql (so (.binOp .eql 33 (tm 128) (tm 133) 33) 4) (tm 128) (tm 133), some (124, false), [], true⟩,
 o2 135 (.pick (tm 124) (.const (.bool true)) (tm 134)),
 o2 16 (.mov (tm 135))]) (.seq (.regionD [
 o2 136 (.mov (tm 17)),
 o2 137 (.bin .gtr (so (.binOp .gtr 3 (tm 136) k0 3) 4) (tm 136) k0),
 o2 138 (.mov (tm 137)),
 o4 139 (.mov (tm 15)) 138,
 o4 140 (.mov (tm 17)) 138,
 o4 141 (.bin .sub (so (.binOp .sub 3 (tm 140) (.const (.int .i64 1)) 3) 3) (tm 140) (.const (.int .i64 1))) 138,
 o4 142 (.indexSl 4 (tm 139) (tm 141)) 138,
 o4 143 (.sliceArr 4 1 (tm 142) none none) 138,
 o4 144 (.bytesToStr (tm 143)) 138,
 o4 145 (.mov (tm 15)) 138,
 o4 146 (.mov (tm 17)) 138,
 o4 147 (.indexSl 4 (tm 145) (tm 146)) 138,
 o4 148 (.sliceArr 4 1 (tm 147) none none) 138,
 o4 149 (.bytesToStr (tm 148)) 138,
 ⟨some 150, .bin .geq (so (.binOp .geq 9 (tm 144) (tm 149) 9) 4) (tm 144) (tm 149), some (138, true), [], true⟩,
 o2 151 (.pick (tm 138) (tm 150) (.const (.bool false)))]) (.cond (tm 151)
 (.seq (.region [
 o1 4 (.mov (.const (.bool false)))]) .ret)
 .skip)))) (.region [
 o1 121 (.mov (tm 17)),
 o1 122 (.bin .add (so (.binOp .add 3 (tm 121) (.const (.int .i64 1)) 3) 3) (tm 121) (.const (.int .i64 1))),
 o1 17 (.mov (tm 122))])))
def zlQ_l2 : ACode :=
 (.seq (.seq (.region [
 o1 104 (.mov (tm 14)),
 o1 105 (.mov (tm 12)),
 o1 106 (.lenSl (tm 105)),
 o1 107 (.bin .lss (so (.binOp .lss 3 (tm 104) (tm 106) 3) 4) (tm 104) (tm 106))]) (.cond (tm 107)
 .skip
 (.exit 2))) (.seq (.block 3 (.seq (.region [
 o1 110 (.mov (tm 6)),
 o1 111 (.mov (tm 12)),
 o1 112 (.mov (tm 14)),
 o1 113 (.indexSl 37 (tm 111) (tm 112)),
 o1 114 (.fieldAddr 4 (tm 113)),
 o1 115 (.load (some 32) (tm 114)),
 o1 116 (.callV (.func 16) [(tm 110), (tm 115)]),
 o1 15 (.mov (tm 116)),
 o1 16 (.mov (.const (.bool false)))]) (.seq (.seq (.region [
 o1 17 (.mov k0)]) (.block 4 (.loop zlQ_l1))) (.seq (.region [
 o1 152 (.mov (tm 16)),
 o1 153 (.raw (so (.unOp .not 4 (tm 152)) 4))]) (.cond (tm 153)
 (.seq (.region [
 o1 4 (.mov (.const (.bool false)))]) .ret)
 .skip))))) (.region [
 o1 108 (.mov (tm 14)),
 o1 109 (.bin .add (so (.binOp .add 3 (tm 108) (.const (.int .i64 1)) 3) 3) (tm 108) (.const (.int .i64 1))),
 o1 14 (.mov (tm 109))])))
def zlQ_c : ACode :=
 (.seq (.region [
 o1 4 (.mov (.const (.bool false)))]) (.seq (.region [
 o1 18 (.callV (.func 5) []),
 o1 5 (.mov (tm 18))]) (.seq (.seq (.region [
 o1 19 (.mov (tm 0)),
 o1 20 (.lenSl (tm 19)),
 o1 21 (.bin .gtr (so (.binOp .gtr 3 (tm 20) (.const (.int .i64 40)) 3) 4) (tm 20) (.const (.int .i64 40)))]) (.cond (tm 21)
 (.seq (.region [
 o1 22 (.mov (tm 5)),
 o1 4 (.mov (tm 22))]) .ret)
 .skip)) (.seq (.region [
 o1 24 (.callV (.func 9) [(.const (.int .i64 4096))]),
 o1 23 (.mov (tm 24)),
 o1 25 (.extract 0 (tm 23)),
 o1 26 (.extract 1 (tm 23)),
 o1 6 (.mov (tm 25)),
 o1 7 (.mov (tm 26))]) (.seq (.region [
 o1 28 (.callV (.func 9) [(.const (.int .i64 4096))]),
 o1 27 (.mov (tm 28)),
 o1 29 (.extract 0 (tm 27)),
 o1 30 (.extract 1 (tm 27)),
 o1 8 (.mov (tm 29)),
 o1 9 (.mov (tm 30))]) (.seq (.seq (.region [
 o1 31 (.mov (tm 7)),
 o1 32 (.bin .neq (so (.binOp .neq 25 (tm 31) k0 25) 4) (tm 31) k0),
 o1 33 (.mov (tm 32)),
 o5 34 (.mov (tm 9)) 33,
 o5 35 (.bin .neq (so (.binOp .neq 25 (tm 34) k0 25) 4) (tm 34) k0) 33,
 o1 36 (.pick (tm 33) (.const (.bool true)) (tm 35)),
 o1 37 (.mov (tm 36)),
 o5 38 (.mov (tm 6)) 37,
 o5 39 (.eq .ptr false (so (.binOp .eql 24 (tm 38) (.const (.pointer none)) 24) 4) (tm 38) (.const (.pointer none))) 37,
 o1 40 (.pick (tm 37) (.const (.bool true)) (tm 39)),
 o1 41 (.mov (tm 40)),
 o5 42 (.mov (tm 8)) 41,
 o5 43 (.eq .ptr false (so (.binOp .eql 24 (tm 42) (.const (.pointer none)) 24) 4) (tm 42) (.const (.pointer none))) 41,
 o1 44 (.pick (tm 41) (.const (.bool true)) (tm 43))]) (.cond (tm 44)
 (.seq (.region [
 o1 4 (.mov (.const (.bool false)))]) .ret)
 .skip)) (.seq (.seq (.region [
 o1 10 (.mov k0)]) (.block 0 (.loop zlQ_l0))) (.seq (.region [
 o1 89 (.mov (tm 6)),
 o1 90 (.callV (.func 18) [(tm 89)]),
 o1 91 (.mov (tm 8)),
 o1 92 (.callV (.func 18) [(tm 91)]),
 o1 12 (.mov (tm 90)),
 o1 13 (.mov (tm 92))]) (.seq (.seq (.region [
 o1 93 (.mov (tm 12)),
 o1 94 (.mov (tm 13)),
 o1 95 (.callV (.func 21) [(tm 93), (tm 94)]),
 o1 96 (.raw (so (.unOp .not 4 (tm 95)) 4)),
 o1 97 (.mov (tm 96)),
 o5 98 (.mov (tm 12)) 97,
 o5 99 (.lenSl (tm 98)) 97,
 o5 100 (.mov (tm 6)) 97,
 o5 101 (.callV (.func 17) [(tm 100)]) 97,
 o5 102 (.bin .neq (so (.binOp .neq 3 (tm 99) (tm 101) 3) 4) (tm 99) (tm 101)) 97,
 o1 103 (.pick (tm 97) (.const (.bool true)) (tm 102))]) (.cond (tm 103)
 (.seq (.region [
 o1 4 (.mov (.const (.bool false)))]) .ret)
 .skip)) (.seq (.seq (.region [
 o1 14 (.mov k0)]) (.block 2 (.loop zlQ_l2))) (.seq (.region [
 o1 154 (.mov (tm 5)),
 o1 4 (.mov (tm 154))]) .ret)))))))))))
def zlQ : AFunc := ⟨155, [(4, none)], zlQ_c, none⟩
theorem zlQ_t0 : tableOf Try.prog 6 = some zlQ := by kernel_rfl
theorem zlQ_t : T0 6 = some zlQ := withKept_t rfl (withTrue_t rfl zlQ_t0)
theorem zlQ_runs {v0 v1 : Value} {h : Heap} {R : RP} {X : XP} (k : RunC Try.prog T0 zlQ_c ⟨[v0, v1, U, U, U, U, U, U, U, U, U, U, U, U, U, U, U, U, U, U, U, U, U, U, U, U, U, U, U, U, U, U, U, U, U, U, U, U, U, U, U, U, U, U, U, U, U, U, U, U, U, U, U, U, U, U, U, U, U, U, U, U, U, U, U, U, U, U, U, U, U, U, U, U, U, U, U, U, U, U, U, U, U, U, U, U, U, U, U, U, U, U, U, U, U, U, U, U, U, U, U, U, U, U, U, U, U, U, U, U, U, U, U, U, U, U, U, U, U, U, U, U, U, U, U, U, U, U, U, U, U, U, U, U, U, U, U, U, U, U, U, U, U, U, U, U, U, U, U, U, U, U, U, U, U], [], h, none⟩ (bodyQ Try.prog T0 [(4, none)] R X)) :
 Runs Try.prog T0 (.fn 6) [v0, v1] h R X := Runs.fn zlQ_t rfl k
abbrev zlQ_l0_M : List Nat := [0, 0, 0, 0, 1, 0, 0, 0, 0, 0, 2, 1, 0, 0, 0, 0, 0, 0, 0, 0, 0, 0, 0, 0, 0, 0, 0, 0, 0, 0, 0, 0, 0, 0, 0, 0, 0, 0, 0, 0, 0, 0, 0, 0, 0, 1, 1, 1, 1, 1, 1, 1, 1, 1, 1, 1, 1, 1, 1, 1, 1, 1, 1, 1, 1, 1, 1, 1, 1, 1, 1, 1, 1, 1, 1, 1, 1, 1, 1, 1, 1, 1, 1, 1, 1, 1, 1, 1, 1, 0, 0, 0, 0, 0, 0, 0, 0, 0, 0, 0, 0, 0, 0, 0, 0, 0, 0, 0, 0, 0, 0, 0, 0, 0, 0, 0, 0, 0, 0, 0, 0, 0, 0, 0, 0, 0, 0, 0, 0, 0, 0, 0, 0, 0, 0, 0, 0, 0, 0, 0, 0, 0, 0, 0, 0, 0, 0, 0, 0, 0, 0, 0, 0, 0, 0]
abbrev zlQ_l1_M : List Nat := [0, 0, 0, 0, 1, 0, 0, 0, 0, 0, 0, 0, 0, 0, 0, 0, 2, 2, 0, 0, 0, 0, 0, 0, 0, 0, 0, 0, 0, 0, 0, 0, 0, 0, 0, 0, 0, 0, 0, 0, 0, 0, 0, 0, 0, 0, 0, 0, 0, 0, 0, 0, 0, 0, 0, 0, 0, 0, 0, 0, 0, 0, 0, 0, 0, 0, 0, 0, 0, 0, 0, 0, 0, 0, 0, 0, 0, 0, 0, 0, 0, 0, 0, 0, 0, 0, 0, 0, 0, 0, 0, 0, 0, 0, 0, 0, 0, 0, 0, 0, 0, 0, 0, 0, 0, 0, 0, 0, 0, 0, 0, 0, 0, 0, 0, 0, 0, 1, 1, 1, 1, 1, 1, 1, 1, 1, 1, 1, 1, 1, 1, 1, 1, 1, 1, 1, 1, 1, 1, 1, 1, 1, 1, 1, 1, 1, 1, 1, 1, 1, 1, 1, 0, 0, 0]
abbrev zlQ_l2_M : List Nat := [0, 0, 0, 0, 1, 0, 0, 0, 0, 0, 0, 0, 0, 0, 2, 1, 1, 1, 0, 0, 0, 0, 0, 0, 0, 0, 0, 0, 0, 0, 0, 0, 0, 0, 0, 0, 0, 0, 0, 0, 0, 0, 0, 0, 0, 0, 0, 0, 0, 0, 0, 0, 0, 0, 0, 0, 0, 0, 0, 0, 0, 0, 0, 0, 0, 0, 0, 0, 0, 0, 0, 0, 0, 0, 0, 0, 0, 0, 0, 0, 0, 0, 0, 0, 0, 0, 0, 0, 0, 0, 0, 0, 0, 0, 0, 0, 0, 0, 0, 0, 0, 0, 0, 0, 1, 1, 1, 1, 1, 1, 1, 1, 1, 1, 1, 1, 1, 1, 1, 1, 1, 1, 1, 1, 1, 1, 1, 1, 1, 1, 1, 1, 1, 1, 1, 1, 1, 1, 1, 1, 1, 1, 1, 1, 1, 1, 1, 1, 1, 1, 1, 1, 1, 1, 0]
end Go.Proofs.Ytagmnpeilgnbdaa.A

namespace Go.Proofs.Ytagmnpeilgnbdaa.A
open Go Go.Vm
set_option maxRecDepth 10000
set_option linter.unusedVariables false
theorem sig_cells {h : Heap} {b o n k : Nat} {l : List Sg} (hc : cellsAt h b o (n * 37) = some (gcells l)) (hn : l.length = n) (hk : k < n) : Cells h b (o + k * 37) 37 (at' l k).cells := ⟨by
  have h1 := (gsub (l := l) (j := []) (i := k) (by omega)).eq
  rw [List.append_nil] at h1
  rw [cellsAt_sub hc (by omega), h1]⟩
end Go.Proofs.Ytagmnpeilgnbdaa.A

namespace Go.Proofs.Ytagmnpeilgnbdaa.A
open Go Go.Vm
set_option maxRecDepth 10000
set_option linter.unusedVariables false
theorem fits_bytes {h : Heap} {m : Nat} {te : TypeId} {c : List Value} {len : Nat} (hu : Try.prog.underlying te = some (.int .u8)) (hs : Try.prog.cellsOf te = 1) (hl : c.length = len * Try.prog.cellsOf te) (hall : ∀ i, i < len → Fits Try.prog h (m + 1) te ((c.drop (i * Try.prog.cellsOf te)).take (Try.prog.cellsOf te))) : ∃ bs : List UInt8, c = bcells bs ∧ bs.length = len := by
  rw [hs, Nat.mul_one] at hl
  induction c generalizing len with
  | nil => exact ⟨[], rfl, by simpa using hl⟩
  | cons v c ih =>
    cases len with
    | zero => simp at hl
    | succ len =>
      have h0 := hall 0 (by omega)
      rw [hs] at h0
      unfold Fits at h0
      rw [hu] at h0
      simp only [Nat.zero_mul, List.drop_zero, List.take_succ_cons, List.take_zero] at h0
      obtain ⟨x, hx, hwf⟩ := h0
      injection hx with hx _
      obtain ⟨bs, rfl, hb⟩ := ih (len := len) (by simpa using hl) fun i hi => by
        have := hall (i + 1) (by omega)
        rw [hs] at this ⊢
        simpa using this
      have hr : 0 ≤ x ∧ x ≤ 255 := by
        simp [Lit.wf, IntKind.min, IntKind.max, IntKind.signed, IntKind.bits] at hwf
        omega
      refine ⟨UInt8.ofNat x.toNat :: bs, ?_, by simp [hb]⟩
      rw [hx]
      show Value.int .u8 x :: bcells bs = Value.int .u8 ((UInt8.ofNat x.toNat).toNat : Nat) :: bcells bs
      rw [u8nat (by omega)]
      congr 2
      omega
end Go.Proofs.Ytagmnpeilgnbdaa.A

namespace Go.Proofs.Ytagmnpeilgnbdaa.A
open Go Go.Vm
set_option maxRecDepth 10000
set_option linter.unusedVariables false
def pickS (x n : Int) : Int := if n ≤ 0 then 0 else x % n
theorem Pick_ok {h : Heap} {x n : Int} (hn : n ≤ 9223372036854775807) : Runs Try.prog T0 (.fn fn_zfQ) [.int .i64 x, .int .i64 n] h (fun r h' => r = .int .i64 (pickS x n) ∧ h' = h) (fun _ _ => False) := by
  refine zfQ_runs ?_
  refine stp ?_
  unfold pickS
  refine C.if (fun h0 => ?_) (fun h0 => ?_)
  · refine stp ?_
    rw [if_pos h0]
    exact ⟨rfl, rfl⟩
  · refine stp ?_
    refine O.how (XOp.remI (by omega)) ?_
    have h1 := Int.tmod_lt_of_pos x (show 0 < n by omega)
    have h2 : -n < x.tmod n := by
      have := Int.lt_tmod_of_pos x (show 0 < n by omega)
      omega
    have e := Int.tmod_eq_emod (a := x) (b := n)
    have p1 := Int.emod_nonneg x (show n ≠ 0 by omega)
    have p2 := Int.emod_lt_of_pos x (show 0 < n by omega)
    have p3 : (n.natAbs : Int) = n := Int.natAbs_of_nonneg (by omega)
    refine stp ?_
    rw [if_neg h0]
    refine C.if (fun h3 => ?_) (fun h3 => ?_)
    · refine stp ?_
      refine ⟨?_, rfl⟩
      congr 1
      split at e <;> omega
    · refine stp ?_
      refine ⟨?_, rfl⟩
      congr 1
      split at e <;> omega
theorem fits_flat32 {h : Heap} {m : Nat} {t te : TypeId} {c : List Value} (ht : Try.prog.underlying t = some (.array 32 te)) (hu : Try.prog.underlying te = some (.int .u8)) (hs : Try.prog.cellsOf te = 1) (hs32 : Try.prog.cellsOf t = 32) (hv : Fits Try.prog h (m + 2) t c) : ∃ bs : List UInt8, c = bcells bs ∧ bs.length = 32 := by
  unfold Fits at hv
  rw [ht] at hv
  exact fits_bytes hu hs (by rw [hv.1, hs32, hs]) hv.2
end Go.Proofs.Ytagmnpeilgnbdaa.A

namespace Go.Proofs.Ytagmnpeilgnbdaa.A
open Go Go.Vm
set_option maxRecDepth 100000
set_option linter.unusedVariables false
theorem four {l : List UInt8} (h : l.length = 4) : ∃ a b c d, l = [a, b, c, d] := by
  match l, h with
  | [a, b, c, d], _ => exact ⟨a, b, c, d, rfl⟩
theorem wf_u64 {x : Int} (h : (Lit.int .u64 x).wf = true) : 0 ≤ x ∧ x ≤ 18446744073709551615 := by
  simp [Lit.wf, IntKind.min, IntKind.max, IntKind.signed, IntKind.bits] at h
  omega
theorem sig_fitG {h : Heap} {m : Nat} {te tk th tb tu : TypeId} {c : List Value} (f0 : fieldAt Try.prog te 0 = some (0, tk)) (f1 : fieldAt Try.prog te 1 = some (4, th)) (f2 : fieldAt Try.prog te 2 = some (36, tu)) (uk : Try.prog.underlying tk = some (.array 4 tb)) (uh : Try.prog.underlying th = some (.array 32 tb)) (ub : Try.prog.underlying tb = some (.int .u8)) (uu : Try.prog.underlying tu = some (.int .u64))
    (ce : Try.prog.cellsOf te = 37) (ck : Try.prog.cellsOf tk = 4) (ch : Try.prog.cellsOf th = 32) (cb : Try.prog.cellsOf tb = 1) (cu : Try.prog.cellsOf tu = 1) (hv : Fits Try.prog h (m + 3) te c) : ∃ s : Sg, (0 ≤ s.sg ∧ s.sg < 18446744073709551616) ∧ c = s.cells := by
  have hlen := hv.len f0
  rw [ce] at hlen
  have hk := hv.field f0
  rw [ck] at hk
  have hb : ∃ bs : List UInt8, (c.drop 0).take 4 = bcells bs ∧ bs.length = 4 := by
    unfold Fits at hk
    rw [uk] at hk
    exact fits_bytes ub cb (by rw [hk.1, ck, cb]) hk.2
  obtain ⟨bs, hb1, hb2⟩ := hb
  obtain ⟨a0, a1, a2, a3, rfl⟩ := four hb2
  obtain ⟨hs, k1, k1l⟩ := fits_flat32 (m := m) uh ub cb ch (hv.field f1)
  rw [ch] at k1
  obtain ⟨x, k2, w2⟩ := (hv.field f2).int uu
  rw [cu] at k2
  have hx := wf_u64 w2
  refine ⟨⟨a0, a1, a2, a3, hs, x, k1l⟩, ⟨hx.1, by show x < _; omega⟩, ?_⟩
  rw [← List.drop_zero (l := c), vsplit c 0 4, hb1, vsplit c (0 + 4) 32, k1, vsplit c (0 + 4 + 32) 1, k2, show c.drop (0 + 4 + 32 + 1) = [] from List.drop_eq_nil_of_le (by omega), List.append_nil]
  rfl
theorem sigs_fit {h : Heap} {m : Nat} {te tk th tb tu : TypeId} (f0 : fieldAt Try.prog te 0 = some (0, tk)) (f1 : fieldAt Try.prog te 1 = some (4, th)) (f2 : fieldAt Try.prog te 2 = some (36, tu)) (uk : Try.prog.underlying tk = some (.array 4 tb)) (uh : Try.prog.underlying th = some (.array 32 tb)) (ub : Try.prog.underlying tb = some (.int .u8)) (uu : Try.prog.underlying tu = some (.int .u64))
    (ce : Try.prog.cellsOf te = 37) (ck : Try.prog.cellsOf tk = 4) (ch : Try.prog.cellsOf th = 32) (cb : Try.prog.cellsOf tb = 1) (cu : Try.prog.cellsOf tu = 1) :
    ∀ (len : Nat) (c : List Value), c.length = len * 37 → (∀ i, i < len → Fits Try.prog h (m + 3) te ((c.drop (i * 37)).take 37)) → ∃ l : List Sg, c = gcells l ∧ l.length = len ∧ ∀ s ∈ l, 0 ≤ s.sg ∧ s.sg < 18446744073709551616
  | 0, c, hl, _ => ⟨[], by simpa [gcells] using hl, rfl, by simp⟩
  | len + 1, c, hl, hall => by
    have h0 := hall 0 (by omega)
    rw [Nat.zero_mul, List.drop_zero] at h0
    obtain ⟨s, hs, e0⟩ := sig_fitG f0 f1 f2 uk uh ub uu ce ck ch cb cu h0
    obtain ⟨l, e1, e2, e3⟩ := sigs_fit f0 f1 f2 uk uh ub uu ce ck ch cb cu len (c.drop 37) (by rw [List.length_drop]; omega) fun i hi => by
      have := hall (i + 1) (by omega)
      rw [List.drop_drop]
      rw [show (i + 1) * 37 = 37 + i * 37 from by omega] at this
      exact this
    refine ⟨s :: l, ?_, by simp [e2], fun x hx => ?_⟩
    · rw [gcells_cons, ← e1, ← e0, List.take_append_drop]
    · rcases List.mem_cons.1 hx with rfl | q
      · exact hs
      · exact e3 x q
theorem fits_sigs {h : Heap} {t te tk th tb tu : TypeId} {v : Value} (ht : Try.prog.underlying t = some (.slice te)) (f0 : fieldAt Try.prog te 0 = some (0, tk)) (f1 : fieldAt Try.prog te 1 = some (4, th)) (f2 : fieldAt Try.prog te 2 = some (36, tu)) (uk : Try.prog.underlying tk = some (.array 4 tb)) (uh : Try.prog.underlying th = some (.array 32 tb)) (ub : Try.prog.underlying tb = some (.int .u8)) (uu : Try.prog.underlying tu = some (.int .u64))
    (ce : Try.prog.cellsOf te = 37) (ck : Try.prog.cellsOf tk = 4) (ch : Try.prog.cellsOf th = 32) (cb : Try.prog.cellsOf tb = 1) (cu : Try.prog.cellsOf tu = 1) (hv : FitsV Try.prog h 8 t v) :
    ∃ l : List Sg, Rd h 37 v (gcells l) l.length ∧ ∀ s ∈ l, 0 ≤ s.sg ∧ s.sg < 18446744073709551616 := by
  unfold FitsV at hv
  rw [ht] at hv
  unfold Fits at hv
  rw [ht] at hv
  rcases hv with hv | ⟨b, len, cap, c, hv, hb, hlc, hcap, hro, hl, hall⟩
  · injection hv with hv _
    subst hv
    exact ⟨[], Rd.nil, by simp⟩
  · rw [ce] at hl hall
    obtain ⟨l, rfl, e2, e3⟩ := sigs_fit (m := 4) f0 f1 f2 uk uh ub uu ce ck ch cb cu len c hl hall
    have hal := gcells_len l
    injection hv with hv _
    subst hv
    refine ⟨l, ⟨_, _, by rw [e2], hal, fun hn => ⟨b, 0, none, rfl, hb, ?_⟩⟩, e3⟩
    rw [cellsAt_of (c := gcells l) (by rw [hro (by omega)]; rfl) (by omega), List.drop_zero, List.take_of_length_le (by omega)]
end Go.Proofs.Ytagmnpeilgnbdaa.A

namespace Go.Proofs.Ytagmnpeilgnbdaa.A
open Go Go.Vm
set_option maxRecDepth 100000
set_option linter.unusedVariables false
theorem in_sigs {h : Heap} {v : Value} (hv : FitsV Try.prog h 8 22 v) : ∃ l : List Sg, Rd h 37 v (gcells l) l.length ∧ ∀ s ∈ l, 0 ≤ s.sg ∧ s.sg < 18446744073709551616 :=
  fits_sigs (te := 38) (tk := 33) (th := 35) (tb := 5) (tu := 36) (by kernel_rfl) (by kernel_rfl) (by kernel_rfl) (by kernel_rfl) (by kernel_rfl) (by kernel_rfl) (by kernel_rfl) (by kernel_rfl) (by kernel_rfl) (by kernel_rfl) (by kernel_rfl) (by kernel_rfl) (by kernel_rfl) hv
end Go.Proofs.Ytagmnpeilgnbdaa.A

namespace Go.Proofs.Ytagmnpeilgnbdaa.A
open Go Go.Vm
set_option maxRecDepth 10000
set_option linter.unusedVariables false
theorem srtG_mem {L M : List Sg} (h1 : SrtG L) (h2 : SrtG M) (h : ∀ s, s ∈ L ↔ s ∈ M) : L = M := by
  refine srtG_eq h1 h2 ?_
  exact (List.perm_ext_iff_of_nodup h1.nodup h2.nodup).2 h
theorem key_le {a b : Sg} (h : ltG a b = true) : bv a.key ≤ bv b.key := by
  unfold ltG at h
  have := of_decide_eq_true h
  omega
theorem at_lt {L : List Sg} (hs : SrtG L) {i j : Nat} (hij : i < j) (hj : j < L.length) : ltG (at' L i) (at' L j) = true := by
  rw [at_eq (by omega), at_eq hj]
  exact List.pairwise_iff_getElem.1 hs i j (by omega) hj hij
structure WhoIs (hs : List UInt8) (L : List Sg) (k : Nat) (W : List K4) : Prop where
  ris : W.Pairwise fun a b => bv a.bs < bv b.bs
  from' : ∀ x ∈ W, ∃ i, i < k ∧ x = (at' L i).k4
  all : ∀ i, i < k → (at' L i).hash = hs → (at' L i).k4 ∈ W
theorem who_is {hs : List UInt8} {L : List Sg} (hL : SrtG L) : ∀ (k : Nat), k ≤ L.length → WhoIs hs L k (whoG hs (L.take k))
  | 0, _ => ⟨by rw [List.take_zero]; exact List.Pairwise.nil, by rw [List.take_zero]; intro x hx; exact absurd hx (by simp [whoG]), fun i hi => by omega⟩
  | k + 1, hk => by
    have ih := who_is (hs := hs) hL k (by omega)
    rw [who_take (by omega)]
    split
    · rename_i hh
      generalize whoG hs (L.take k) = W at *
      unfold pushK
      split
      · rename_i hl
        refine ⟨ih.ris, fun x hx => ?_, fun i hi h => ?_⟩
        · obtain ⟨i, h1, h2⟩ := ih.from' x hx
          exact ⟨i, by omega, h2⟩
        · rcases Nat.lt_or_ge i k with q | q
          · exact ih.all i q h
          · obtain rfl : i = k := by omega
            exact List.mem_of_getLast? hl
      · rename_i hl
        refine ⟨?_, fun x hx => ?_, fun i hi h => ?_⟩
        · refine List.pairwise_append.2 ⟨ih.ris, List.pairwise_singleton _ _, fun x hx b hb => ?_⟩
          obtain rfl := List.mem_singleton.1 hb
          obtain ⟨i, h1, h2⟩ := ih.from' x hx
          have hle := key_le (at_lt hL h1 (by omega))
          have hle : bv x.bs ≤ bv (at' L k).k4.bs := by rw [h2]; exact hle
          rcases Nat.lt_or_eq_of_le hle with q | q
          · exact q
          · exfalso
            have hxk : x = (at' L k).k4 := K4.ext' (bv_inj rfl q)
            rcases List.eq_nil_or_concat W with e | ⟨W', y, e⟩
            · rw [e] at hx
              simp at hx
            · rw [List.concat_eq_append] at e
              subst e
              rcases List.mem_append.1 hx with hx' | hx'
              · have hxy := (List.pairwise_append.1 ih.ris).2.2 x hx' y (by simp)
                obtain ⟨j, h3, h4⟩ := ih.from' y (by simp)
                have hyk := key_le (at_lt hL h3 (by omega))
                have hyk : bv y.bs ≤ bv (at' L k).k4.bs := by rw [h4]; exact hyk
                omega
              · obtain rfl := List.mem_singleton.1 hx'
                rw [hxk] at hl
                simp at hl
        · rcases List.mem_append.1 hx with q | q
          · obtain ⟨i, h1, h2⟩ := ih.from' x q
            exact ⟨i, by omega, h2⟩
          · exact ⟨k, by omega, List.mem_singleton.1 q⟩
        · rcases Nat.lt_or_ge i k with q | q
          · exact List.mem_append.2 (.inl (ih.all i q h))
          · obtain rfl : i = k := by omega
            exact List.mem_append.2 (.inr (by simp))
    · rename_i hh
      refine ⟨ih.ris, fun x hx => ?_, fun i hi h => ?_⟩
      · obtain ⟨i, h1, h2⟩ := ih.from' x hx
        exact ⟨i, by omega, h2⟩
      · rcases Nat.lt_or_ge i k with q | q
        · exact ih.all i q h
        · obtain rfl : i = k := by omega
          exact absurd h hh
theorem who_ris {hs : List UInt8} {L : List Sg} (hL : SrtG L) : (whoG hs L).Pairwise fun a b => bv a.bs < bv b.bs := by
  have := (who_is (hs := hs) hL L.length (Nat.le_refl _)).ris
  rwa [List.take_length] at this
theorem who_has {L : List Sg} (hL : SrtG L) {k : Nat} (hk : k < L.length) : (at' L k).k4 ∈ whoG (at' L k).hash L := by
  have := (who_is (hs := (at' L k).hash) hL L.length (Nat.le_refl _)).all k hk rfl
  rwa [List.take_length] at this
theorem add_is {L : List Sg} {s : Sg} (hl : L.length < 4096) : ∃ (b : Bool) (e : Int) (L' : List Sg), decide (s ∈ L) = b ∧ addG 4096 L s = (L', e) ∧ decide (e = 8) = b ∧ (∀ x, x ∈ L' ↔ x ∈ L ∨ x = s) ∧ L'.length ≤ L.length + 1 := by
  by_cases h : s ∈ L
  · refine ⟨true, 8, L, decide_eq_true h, by unfold addG; rw [if_pos h], by simp, fun x => ⟨.inl, fun q => ?_⟩, by omega⟩
    rcases q with q | rfl
    · exact q
    · exact h
  · refine ⟨false, 0, insG s L, decide_eq_false h, by unfold addG; rw [if_neg h, if_neg (by omega)], by simp, fun x => ?_, by rw [insG_len]; omega⟩
    rw [insG_perm.mem_iff, List.mem_cons]
    exact Or.comm
theorem turned {l : List Sg} {d : Nat} {s : Sg} : (∃ i, i < l.length ∧ s = at' l ((i + d) % l.length)) ↔ s ∈ l := by
  constructor
  · rintro ⟨i, hi, rfl⟩
    exact at_mem (Nat.mod_lt _ (by omega))
  · intro h
    obtain ⟨j, hj, e⟩ := List.mem_iff_getElem.1 h
    have hn : 0 < l.length := by omega
    refine ⟨(j + (l.length - d % l.length)) % l.length, Nat.mod_lt _ hn, ?_⟩
    have hd := Nat.mod_lt d hn
    have hd2 := Nat.div_add_mod d l.length
    have : ((j + (l.length - d % l.length)) % l.length + d) % l.length = j := by
      rw [Nat.mod_add_mod]
      have e2 : j + (l.length - d % l.length) + d = j + l.length * (d / l.length + 1) := by
        rw [Nat.mul_add, Nat.mul_one]
        omega
      rw [e2, Nat.add_mul_mod_self_left]
      exact Nat.mod_eq_of_lt hj
    rw [this, at_eq hj, e]
theorem take_mem {l : List Sg} {k : Nat} (hk : k < l.length) {x : Sg} : x ∈ l.take (k + 1) ↔ x ∈ l.take k ∨ x = at' l k := by
  rw [List.take_succ_eq_append_getElem hk, List.mem_append, List.mem_singleton, at_eq hk]
end Go.Proofs.Ytagmnpeilgnbdaa.A

namespace Go.Proofs.Ytagmnpeilgnbdaa.A
open Go Go.Vm
set_option maxRecDepth 10000
set_option linter.unusedVariables false
instance XOp.geqS {P : Program} {ts : List Value} {h : Heap} {x y : Operand} {t t' ty : TypeId} {s s' : ByteArray} [e1 : Ev ts x (.string s)] [e2 : Ev ts y (.string s')] : XOp P ts h (.bin .geq (so (.binOp .geq t x y t') ty) x y) (.bool (!Op.bytesLess s.toList s'.toList)) h :=
  ⟨rfl, (bin_raw (by intro k a b hu; cases hu) e1.eq e2.eq).trans (raw_bin e1.eq e2.eq rfl rfl rfl rfl)⟩
theorem xeqlb {P : Program} {ts : List Value} {h : Heap} {x y : Operand} {p q : Int} {b : Bool} {O : Oper} (hp : decide (p = q) = b) [e1 : Ev ts x (.int .i64 p)] [e2 : Ev ts y (.int .i64 q)] : XOp P ts h (.bin .eql O x y) (.bool b) h := by
  have := (XOp.eqlI : XOp P ts h (.bin .eql O x y) (.bool (decide (p = q))) h)
  rw [hp] at this
  exact this
set_option maxHeartbeats 64000000 in
theorem SigsOrder_true {h : Heap} {from' : Int} {v : Value} {l : List Sg} (hv : Rd h 37 v (gcells l) l.length) :
    Runs Try.prog T0 (.fn fn_zlQ) [v, .int .i64 from'] h (fun r h' => r = .bool true) (fun _ _ => False) := by
  obtain ⟨av, cv, rfl, hvl, hvc⟩ := id hv
  haveI qn : ∀ {ts : List Value} {h : Heap} {Q0 : Oper} {x z : Operand} {p : Int} [Ev ts x (.int .i64 p)] [Ev ts z (.int .i64 p)], XOp Try.prog ts h (.bin .neq Q0 x z) (.bool false) h := xneqI0 rfl
  refine zlQ_runs ?_
  refine stp ?_
  refine O.call' zkQ_known (fun r h0 hr => ?_)
  obtain ⟨rfl, rfl⟩ := hr
  refine stp ?_
  refine C.if (fun hlong => ?_) (fun hshort => ?_)
  · refine stp ?_
    rfl
  refine stp ?_
  refine O.call' (gNew_ok (by omega) (by omega)) (fun r h1 hr => ?_)
  obtain ⟨rfl, ha, f1⟩ := hr
  refine stp ?_
  refine O.call' (gNew_ok (by omega) (by omega)) (fun r h2 hr => ?_)
  obtain ⟨rfl, hd, f2⟩ := hr
  have n1 := f1.n
  have n2 := f2.n
  have l1 := ha.lp
  refine stp ?_
  obtain ⟨d, hpk⟩ : ∃ d : Nat, pickS from' l.length = d := by
    refine ⟨(pickS from' l.length).toNat, ?_⟩
    unfold pickS
    split
    · rfl
    · have := Int.emod_nonneg from' (show (l.length : Int) ≠ 0 by omega)
      omega
  have hdl : 0 < l.length → d < l.length := fun hp => by
    have := Int.emod_lt_of_pos from' (show 0 < (l.length : Int) by omega)
    unfold pickS at hpk
    rw [if_neg (by omega)] at hpk
    omega
  refine loop1 zlQ_l0_M 10 (fun q v10 hx => ∃ (k : Nat) (L M : List Sg) (c c' : Nat) (l1 l2 : List GEnt), k ≤ l.length ∧ q = l.length - k ∧ v10 = .int .i64 k ∧ TbAt hx (h0.n + 1) h0.n c l1 4096 L ∧ TbAt hx (h1.n + 1) h1.n c' l2 4096 M ∧ (∀ s, s ∈ L ↔ s ∈ l.take k) ∧ (∀ s, s ∈ M ↔ ∃ i, i < k ∧ s = at' l ((i + d) % l.length)) ∧ L.length ≤ k ∧ M.length ≤ k ∧ Fr (fun _ => False) h0 hx) ?_ l.length ⟨0, [], [], 0, 0, [], [], by omega, rfl, rfl, ha.keep f2 id id, hd, by simp, by simp, by simp, by simp, f1.trans' f2⟩
  clear ha hd f1 f2
  rintro m v10 h' x4 x11 x45 x46 x47 x48 x49 x50 x51 x52 x53 x54 x55 x56 x57 x58 x59 x60 x61 x62 x63 x64 x65 x66 x67 x68 x69 x70 x71 x72 x73 x74 x75 x76 x77 x78 x79 x80 x81 x82 x83 x84 x85 x86 x87 x88 ⟨k, L, M, c, c', e1, e2, hk, rfl, rfl, ha, hb, hmL, hmM, hLk, hMk, hF⟩
  rcases Nat.lt_or_ge k l.length with hlt | hge
  · haveI q1 : ∀ {ts : List Value} {h : Heap} {O : Oper} {x z : Operand} [Ev ts x (.int .i64 (k : Nat))] [Ev ts z (.int .i64 (l.length : Nat))], XOp Try.prog ts h (.bin .lss O x z) (.bool true) h := xlss1 (by omega)
    obtain ⟨b, o, sp, rfl, hbl, hcc⟩ := hvc (by omega)
    have cc : ∀ {g : Heap}, Fr (fun _ => False) h0 g → cellsAt g b o (l.length * 37) = some (gcells l) := fun hf => (cellsAt_keep hf hbl id).trans hcc
    obtain ⟨yes, e, L', hyes, hadd, he8, hmem, hlen⟩ := add_is (L := L) (s := at' l k) (by omega)
    haveI q8 : ∀ {ts : List Value} {h : Heap} {O : Oper} {x z : Operand} [Ev ts x (.int .i64 e)] [Ev ts z (.int .i64 8)], XOp Try.prog ts h (.bin .eql O x z) (.bool yes) h := xeqlb he8
    haveI := sig_cells (cc hF) rfl hlt
    refine stp ?_
    refine O.call' (gHas_ok ha (s := at' l k)) (fun r h3 hr => ?_)
    obtain ⟨rfl, f3⟩ := hr
    rw [hyes]
    have hF3 := hF.trans' f3
    haveI := sig_cells (cc hF3) rfl hlt
    have ha3 := ha.keep f3 id id
    have hb3 := hb.keep f3 id id
    refine stp ?_
    refine O.call' (gAdd_ok ha3 (s := at' l k) (by omega)) (fun r h4 hr => ?_)
    obtain ⟨rfl, ⟨c4, l4, ha4⟩, f4⟩ := hr
    rw [hadd] at ha4 ⊢
    simp only at ha4 ⊢
    have n3 := f3.n
    have hF4 : Fr (fun _ => False) h0 h4 := Fr.trans (S := fun _ => False) hF3 f4 fun i hi e => by omega
    have hb4 := hb3.keep f4 (by omega) (by omega)
    haveI := sig_cells (cc hF4) rfl hlt
    refine stp ?_
    refine O.callT (gHas_ok ha4 (s := at' l k)) (fun r h5 hr => ?_)
    obtain ⟨rfl, f5⟩ := hr
    rw [decide_eq_true ((hmem _).2 (.inr rfl))]
    have ha5 := ha4.keep f5 id id
    have hb5 := hb4.keep f5 id id
    have hF5 := hF4.trans' f5
    refine stp ?_
    refine O.call' (Pick_ok (by omega)) (fun r h6 hr => ?_)
    obtain ⟨rfl, rfl⟩ := hr
    rw [hpk]
    have hd := hdl (by omega)
    have hj : ((k : Int) + (d : Int)).tmod (l.length : Int) = ((k + d) % l.length : Nat) := rfl
    have hjl : (k + d) % l.length < l.length := Nat.mod_lt _ (by omega)
    refine stp ?_
    refine O.how (XOp.remI (by omega)) ?_
    rw [hj]
    haveI := sig_cells (cc hF5) rfl hjl
    refine stp ?_
    have f0 := hb5.ln
    refine O.call' (gAdd_ok hb5 (s := at' l ((k + d) % l.length)) (by omega)) (fun r h7 hr => ?_)
    obtain ⟨rfl, ⟨c7, l7, hb7⟩, f7⟩ := hr
    have n5 := hF5.n
    have hF7 : Fr (fun _ => False) h0 h7 := Fr.trans (S := fun _ => False) hF5 f7 fun i hi e => by omega
    have ha7 := ha5.keep f7 (by omega) (by omega)
    obtain ⟨yes', e', M', hyes', hadd', he8', hmem', hlen'⟩ := add_is (L := M) (s := at' l ((k + d) % l.length)) (by omega)
    rw [hadd'] at hb7
    refine stp ?_
    refine loop1a 10 (l.length - (k + 1)) (by omega) ⟨k + 1, L', M', _, _, _, _, by omega, rfl, rfl, ha7, hb7, fun s => ?_, fun s => ?_, by omega, by omega, hF7⟩
    · rw [hmem, hmL, take_mem hlt]
    · rw [hmem', hmM]
      constructor
      · rintro (⟨i, hi, e⟩ | e)
        · exact ⟨i, by omega, e⟩
        · exact ⟨k, by omega, e⟩
      · rintro ⟨i, hi, e⟩
        rcases Nat.lt_or_ge i k with q | q
        · exact .inl ⟨i, q, e⟩
        · obtain rfl : i = k := by omega
          exact .inr e
  obtain rfl : k = l.length := by omega
  haveI q1 : ∀ {ts : List Value} {h : Heap} {O : Oper} {x z : Operand} [Ev ts x (.int .i64 (l.length : Nat))] [Ev ts z (.int .i64 (l.length : Nat))], XOp Try.prog ts h (.bin .lss O x z) (.bool false) h := xlss0 (by omega)
  have hLM : M = L := srtG_mem hb.so ha.so fun s => by rw [hmM, turned, hmL, List.take_length]
  subst hLM
  refine stp ?_
  refine O.call' (gList_ok ha) (fun r h3 hr => ?_)
  obtain ⟨ho3, hnew3, f3⟩ := hr
  refine stp ?_
  refine O.call' (gList_ok (hb.keep f3 id id)) (fun r h4 hr => ?_)
  obtain ⟨ho4, hnew4, f4⟩ := hr
  have ho34 := ho3.keep f4 fun _ _ => id
  have ha4 := (ha.keep f3 id id).keep f4 id id
  obtain ⟨a3, c3, rfl, _, _⟩ := id ho34.rd
  obtain ⟨a4, c4, rfl, _, _⟩ := id ho4.rd
  refine stp ?_
  refine O.call' (SameSigs_same ho34 ho4 (by omega)) (fun r h5 hr => ?_)
  obtain ⟨rfl, rfl⟩ := hr
  refine stp ?_
  refine O.callT (gLen_ok ha4) (fun r h6 hr => ?_)
  obtain ⟨rfl, rfl⟩ := hr
  refine stp ?_
  have hso := ha.so
  refine loop1 zlQ_l2_M 14 (fun q v14 hx => ∃ i : Nat, i ≤ M.length ∧ q = M.length - i ∧ v14 = .int .i64 i ∧ Fr (fun _ => False) h6 hx) ?_ M.length ⟨0, by omega, rfl, rfl, Fr.refl⟩
  rintro m v14 h' x4 x15 x16 x17 x104 x105 x106 x107 x108 x109 x110 x111 x112 x113 x114 x115 x116 x117 x118 x119 x120 x121 x122 x123 x124 x125 x126 x127 x128 x129 x130 x131 x132 x133 x134 x135 x136 x137 x138 x139 x140 x141 x142 x143 x144 x145 x146 x147 x148 x149 x150 x151 x152 x153 ⟨i, hi, rfl, rfl, hF2⟩
  rcases Nat.lt_or_ge i M.length with hilt | hige
  case inr =>
    obtain rfl : i = M.length := by omega
    haveI q2 : ∀ {ts : List Value} {h : Heap} {O : Oper} {x z : Operand} [Ev ts x (.int .i64 (M.length : Nat))] [Ev ts z (.int .i64 (M.length : Nat))], XOp Try.prog ts h (.bin .lss O x z) (.bool false) h := xlss0 (by omega)
    refine stp ?_
    rfl
  haveI q2 : ∀ {ts : List Value} {h : Heap} {O : Oper} {x z : Operand} [Ev ts x (.int .i64 (i : Nat))] [Ev ts z (.int .i64 (M.length : Nat))], XOp Try.prog ts h (.bin .lss O x z) (.bool true) h := xlss1 (by omega)
  have hx := ho34.keep hF2 fun _ _ => id
  have hlenM := ha.len
  obtain ⟨q, sx, cap, j, e, hq, hg⟩ := own_atG hx (by omega)
  cases e
  have hsub : Sub (gcells M ++ j) (i * 37) 37 (at' M i).cells := gsub hilt
  obtain ⟨kk, hk4⟩ : ∃ kk : K4, (at' M i).k4 = kk := ⟨_, rfl⟩
  have hhas := who_has hso hilt
  have hris := who_ris (hs := (at' M i).hash) hso
  have hwl := who_len (hs := (at' M i).hash) (L := M) (k := M.length) (Nat.le_refl _)
  rw [List.take_length] at hwl
  haveI : HGet h' q (.cells (gcells M ++ j) 37) := ⟨hg⟩
  haveI : BLt q h' := ⟨hq⟩
  haveI : L32 (bcells (at' M i).hash) := ⟨by rw [bcells_len, (at' M i).hl]⟩
  haveI s4 : Sub (gcells M ++ j) (i * 37 + 4) 32 (bcells (at' M i).hash) := sub_in hsub subHash
  haveI : IdxOff 0 (i : Int) 37 (i * 37) := ⟨by omega⟩
  refine stp ?_
  refine O.call' (gWho_ok ((ha4.keep hF2 id id)) (at' M i).hl) (fun r h7 hr => ?_)
  obtain ⟨ho7, hnew7, f7⟩ := hr
  have hF7 := hF2.trans' f7
  obtain ⟨aw, cw, rfl, _, _⟩ := id ho7.rd
  haveI : HGet h7 q (.cells (gcells M ++ j) 37) := f7.keep ⟨hg⟩ hq id
  haveI s0 : Sub (gcells M ++ j) (i * 37 + 0) 4 kk.cells := by rw [← hk4]; exact sub_in hsub subKey
  haveI s00 : Sub (gcells M ++ j) (i * 37) 4 kk.cells := s0
  rw [hk4] at hhas
  generalize whoG (at' M i).hash M = W at *
  refine stp ?_
  haveI q7 : ∀ {ts : List Value} {h : Heap} {x z : Operand} [Ev ts x (.slice (some ⟨q, 0, some sx⟩) M.length c3)] [Ev ts z (.int .i64 (i : Nat))], XOp Try.prog ts h (.indexSl 37 x z) (.pointer (some ⟨q, i * 37, none⟩)) h := fun {ts h x z} _ _ => XOp.mkIndexSl (by omega)
  refine loop2 zlQ_l1_M 16 17 (fun q v16 v17 hx => ∃ (t : Nat) (b : Bool), t ≤ W.length ∧ q = W.length - t ∧ v16 = .bool b ∧ v17 = .int .i64 t ∧ (b = true ↔ kk ∈ W.take t) ∧ h7 = hx) ?_ W.length ⟨0, false, by omega, rfl, rfl, rfl, by simp, rfl⟩
  rintro m v16 v17 h' x4 x117 x118 x119 x120 x121 x122 x123 x124 x125 x126 x127 x128 x129 x130 x131 x132 x133 x134 x135 x136 x137 x138 x139 x140 x141 x142 x143 x144 x145 x146 x147 x148 x149 x150 x151 ⟨t, b, ht, rfl, rfl, rfl, hbt, rfl⟩
  rcases Nat.lt_or_ge t W.length with htl | htg
  case inr =>
    obtain rfl : t = W.length := by omega
    haveI q3 : ∀ {ts : List Value} {h : Heap} {O : Oper} {x z : Operand} [Ev ts x (.int .i64 (W.length : Nat))] [Ev ts z (.int .i64 (W.length : Nat))], XOp Try.prog ts h (.bin .lss O x z) (.bool false) h := xlss0 (by omega)
    obtain rfl : b = true := hbt.2 (by rw [List.take_length]; exact hhas)
    refine stp ?_
    exact loop1a 14 (M.length - (i + 1)) (by omega) ⟨i + 1, by omega, rfl, rfl, hF7⟩
  haveI q3 : ∀ {ts : List Value} {h : Heap} {O : Oper} {x z : Operand} [Ev ts x (.int .i64 (t : Nat))] [Ev ts z (.int .i64 (W.length : Nat))], XOp Try.prog ts h (.bin .lss O x z) (.bool true) h := xlss1 (by omega)
  obtain ⟨q5, s5, cap5, j5, e5, hq5, hg5⟩ := own_atK ho7 (by omega)
  cases e5
  obtain ⟨kt, hkt⟩ : ∃ kt : K4, W[t] = kt := ⟨_, rfl⟩
  have hmt : ∀ x, x ∈ W.take (t + 1) ↔ x ∈ W.take t ∨ x = kt := fun x => by rw [List.take_succ_eq_append_getElem htl, List.mem_append, List.mem_singleton, hkt]
  haveI : HGet h7 q5 (.cells (kcells W ++ j5) 4) := ⟨hg5⟩
  haveI : BLt q5 h7 := ⟨hq5⟩
  have hst : Sub (kcells W ++ j5) (t * 4) 4 kt.cells := by rw [← hkt]; exact ksub htl
  haveI := hst
  haveI q4 : ∀ {ts : List Value} {h : Heap} {x z : Operand} [Ev ts x (.slice (some ⟨q5, 0, some s5⟩) W.length cw)] [Ev ts z (.int .i64 (t : Nat))], XOp Try.prog ts h (.indexSl 4 x z) (.pointer (some ⟨q5, t * 4, none⟩)) h := fun {ts h x z} _ _ => by
    haveI : IdxOff 0 (t : Int) 4 (t * 4) := ⟨by omega⟩
    exact XOp.mkIndexSl (by omega)
  rcases Nat.eq_zero_or_pos t with ht0 | ht0
  · haveI q5 : ∀ {ts : List Value} {h : Heap} {O : Oper} {x z : Operand} [Ev ts x (.int .i64 (t : Nat))] [Ev ts z (.int .i64 0)], XOp Try.prog ts h (.bin .gtr O x z) (.bool false) h := xgtr0 (by omega)
    cases b with
    | true =>
      refine stp ?_
      exact loop2a 16 17 (W.length - (t + 1)) (by omega) ⟨t + 1, true, by omega, rfl, rfl, rfl, ⟨fun _ => (hmt kk).2 (.inl (hbt.1 rfl)), fun _ => rfl⟩, rfl⟩
    | false =>
      refine stp ?_
      rw [same_bytes]
      refine stp ?_
      refine loop2a 16 17 (W.length - (t + 1)) (by omega) ⟨t + 1, decide (kt.bs = kk.bs), by omega, rfl, rfl, rfl, ?_, rfl⟩
      rw [decide_eq_true_iff, hmt]
      exact ⟨fun e => .inr (K4.ext' e).symm, fun e => e.elim (fun e => absurd (hbt.2 e) (by simp)) (fun e => by rw [e])⟩
  · haveI q5' : ∀ {ts : List Value} {h : Heap} {O : Oper} {x z : Operand} [Ev ts x (.int .i64 (t : Nat))] [Ev ts z (.int .i64 0)], XOp Try.prog ts h (.bin .gtr O x z) (.bool true) h := xgtr1 (by omega)
    haveI q6 : ∀ {ts : List Value} {h : Heap} {x z : Operand} [Ev ts x (.slice (some ⟨q5, 0, some s5⟩) W.length cw)] [Ev ts z (.int .i64 ((t : Int) - 1))], XOp Try.prog ts h (.indexSl 4 x z) (.pointer (some ⟨q5, (t - 1) * 4, none⟩)) h := fun {ts h x z} _ _ => by
      haveI : IdxOff 0 ((t : Int) - 1) 4 ((t - 1) * 4) := ⟨by rw [show ((t : Int) - 1).toNat = t - 1 from by omega]; omega⟩
      exact XOp.mkIndexSl (by omega)
    obtain ⟨kp, hkp⟩ : ∃ kp : K4, W[t - 1]'(by omega) = kp := ⟨_, rfl⟩
    have hsp : Sub (kcells W ++ j5) ((t - 1) * 4) 4 kp.cells := by rw [← hkp]; exact ksub (by omega)
    have rP : Rd h7 1 (.slice (some ⟨q5, (t - 1) * 4, none⟩) 4 4) (bcells kp.bs) 4 := Rd.mk (n := 4) (by omega) (by rw [cellsAt_of (c := kcells W ++ j5) (by rw [hg5]; rfl) hsp.le, hsp.eq])
    have rT : Rd h7 1 (.slice (some ⟨q5, t * 4, none⟩) 4 4) (bcells kt.bs) 4 := Rd.mk (n := 4) (by omega) (by rw [cellsAt_of (c := kcells W ++ j5) (by rw [hg5]; rfl) hst.le, hst.eq])
    haveI sP : ∀ {ts : List Value} {x : Operand} [Ev ts x (.slice (some ⟨q5, (t - 1) * 4, none⟩) 4 4)], XOp Try.prog ts h7 (.bytesToStr x) (.string ⟨⟨kp.bs⟩⟩) h7 := XOp.mkStr rP
    haveI sT : ∀ {ts : List Value} {x : Operand} [Ev ts x (.slice (some ⟨q5, t * 4, none⟩) 4 4)], XOp Try.prog ts h7 (.bytesToStr x) (.string ⟨⟨kt.bs⟩⟩) h7 := XOp.mkStr rT
    have hlt2 : bv kp.bs < bv kt.bs := by
      have := List.pairwise_iff_getElem.1 hris (t - 1) t (by omega) htl (by omega)
      rw [hkp, hkt] at this
      exact this
    have hbl : Op.bytesLess (⟨⟨kp.bs⟩⟩ : ByteArray).toList (⟨⟨kt.bs⟩⟩ : ByteArray).toList = true := by
      rw [ByteArray.toList_eq, ByteArray.toList_eq]
      show Op.bytesLess kp.bs kt.bs = true
      rw [bless_bv (l := kp.bs) (m := kt.bs) rfl]
      exact decide_eq_true hlt2
    haveI sG : ∀ {ts : List Value} {h : Heap} {x z : Operand} {ty1 ty2 ty3 : TypeId} [Ev ts x (.string ⟨⟨kp.bs⟩⟩)] [Ev ts z (.string ⟨⟨kt.bs⟩⟩)], XOp Try.prog ts h (.bin .geq (so (.binOp .geq ty1 x z ty2) ty3) x z) (.bool false) h := fun {ts h x z ty1 ty2 ty3} _ _ => by
      have := (XOp.geqS : XOp Try.prog ts h (.bin .geq (so (.binOp .geq ty1 x z ty2) ty3) x z) _ h)
      rw [hbl] at this
      exact this
    cases b with
    | true =>
      refine stp ?_
      exact loop2a 16 17 (W.length - (t + 1)) (by omega) ⟨t + 1, true, by omega, rfl, rfl, rfl, ⟨fun _ => (hmt kk).2 (.inl (hbt.1 rfl)), fun _ => rfl⟩, rfl⟩
    | false =>
      refine stp ?_
      rw [same_bytes]
      refine stp ?_
      refine loop2a 16 17 (W.length - (t + 1)) (by omega) ⟨t + 1, decide (kt.bs = kk.bs), by omega, rfl, rfl, rfl, ?_, rfl⟩
      rw [decide_eq_true_iff, hmt]
      exact ⟨fun e => .inr (K4.ext' e).symm, fun e => e.elim (fun e => absurd (hbt.2 e) (by simp)) (fun e => by rw [e])⟩
end Go.Proofs.Ytagmnpeilgnbdaa.A

namespace Go.Proofs.Ytagmnpeilgnbdaa.A
open Go Go.Vm
set_option maxRecDepth 100000
set_option linter.unusedVariables false
theorem SigsOrder_run (h : Heap) (vs : List Value) (hf : FitsAll Try.prog h 8 [22, 3] vs) : Runs Try.prog T0 (.fn fn_zlQ) vs h (fun r _ => r = .bool true) (fun _ _ => False) := by
  obtain ⟨v1, _, rfl, h1, hf⟩ := hf.cons
  obtain ⟨v2, _, rfl, h2, hf⟩ := hf.cons
  obtain rfl := hf.nil
  obtain ⟨a, rfl, _⟩ := FitsV.int (k := .i64) h2 (by kernel_rfl)
  obtain ⟨l, hl, hp⟩ := in_sigs h1
  exact SigsOrder_true hl
end Go.Proofs.Ytagmnpeilgnbdaa.A

set_option maxRecDepth 100000
set_option linter.unusedVariables false
namespace Go.Proofs.Ytagmnpeilgnbdaa.R
open Go Go.Vm
open Go.Proofs.Ytagmnpeilgnbdaa.A
abbrev ty_internal_abi_BoundsErrorCode : TypeId := 6
abbrev ty_runtime_boundsError : TypeId := 8
abbrev ty_runtime_errorString : TypeId := 10
abbrev ty_runtime_plainError : TypeId := 11
abbrev ty_runtime_errorAddressString : TypeId := 14
abbrev ty_internal_runtime_maps_unhashableTypeError : TypeId := 19
abbrev ty_api_Errno : TypeId := 25
abbrev ty_api_Key : TypeId := 33
abbrev ty_api_Hash : TypeId := 35
abbrev ty_api_Sig : TypeId := 38
abbrev ty_sigs_Table : TypeId := 43
abbrev ty_api_Fault : TypeId := 62
abbrev ty_lr08_Table : TypeId := 67
abbrev ty_sigs_held : TypeId := 69
abbrev ty_sigs_sig : TypeId := 70
abbrev ty_iter_Seq_api_Key_ : TypeId := 84
abbrev ty_wire_Writer : TypeId := 97
abbrev ty_iter_Seq_sigs_sig_ : TypeId := 102
abbrev ty_wire_Reader : TypeId := 110
abbrev ty_lr04_Writer : TypeId := 129
abbrev ty_wire_wrong : TypeId := 147
abbrev ty_slices_sortedHint : TypeId := 150
abbrev ty_slices_xorshift : TypeId := 160
abbrev ty_runtime_TypeAssertionError : TypeId := 170
abbrev ty_runtime_PanicNilError : TypeId := 173
abbrev ty_internal_abi_TFlag : TypeId := 174
abbrev ty_internal_abi_Kind : TypeId := 175
abbrev ty_internal_abi_NameOff : TypeId := 178
abbrev ty_internal_abi_TypeOff : TypeId := 179
abbrev ty_internal_abi_Type : TypeId := 181
instance : IsIface Try.prog 20 := ⟨by kernel_rfl⟩
abbrev prims : List FuncId := []
abbrev kepts : List FuncId := []
def T0 : Table := withKept (withTrue Try.prog prims) kepts
instance : IsBoolT Try.prog 4 := ⟨by kernel_rfl⟩
instance : TLeaves Try.prog 7 (.i .i64 :: (.i .i64 :: (.b :: (.i .u8 :: [])))) := ⟨by kernel_rfl, by kernel_rfl, by kernel_rfl⟩
instance : TLeaves Try.prog 8 (.i .i64 :: (.i .i64 :: (.b :: (.i .u8 :: [])))) := ⟨by kernel_rfl, by kernel_rfl, by kernel_rfl⟩
instance : TLeaves Try.prog 32 (u8s 4) := ⟨by kernel_rfl, by kernel_rfl, by kernel_rfl⟩
instance : TLeaves Try.prog 33 (u8s 4) := ⟨by kernel_rfl, by kernel_rfl, by kernel_rfl⟩
instance : TLeaves Try.prog 34 (u8s 32) := ⟨by kernel_rfl, by kernel_rfl, by kernel_rfl⟩
instance : TLeaves Try.prog 35 (u8s 32) := ⟨by kernel_rfl, by kernel_rfl, by kernel_rfl⟩
instance : TLeaves Try.prog 37 (u8s 32 ++ (u8s 4 ++ (.i .u64 :: []))) := ⟨by kernel_rfl, by kernel_rfl, by kernel_rfl⟩
instance : TLeaves Try.prog 38 (u8s 32 ++ (u8s 4 ++ (.i .u64 :: []))) := ⟨by kernel_rfl, by kernel_rfl, by kernel_rfl⟩
instance : TLeaves Try.prog 61 (.i .i64 :: (.i .i64 :: [])) := ⟨by kernel_rfl, by kernel_rfl, by kernel_rfl⟩
instance : TLeaves Try.prog 62 (.i .i64 :: (.i .i64 :: [])) := ⟨by kernel_rfl, by kernel_rfl, by kernel_rfl⟩
instance : TLeaves Try.prog 70 (u8s 32 ++ (u8s 4 ++ (.i .u64 :: []))) := ⟨by kernel_rfl, by kernel_rfl, by kernel_rfl⟩
instance : TLeaves Try.prog 105 (u8s 4 ++ (u8s 4)) := ⟨by kernel_rfl, by kernel_rfl, by kernel_rfl⟩
instance : TLeaves Try.prog 134 (u8s 4 ++ (u8s 4 ++ (.i .u8 :: []))) := ⟨by kernel_rfl, by kernel_rfl, by kernel_rfl⟩
instance : TLeaves Try.prog 146 (.i .i64 :: (.i .i64 :: [])) := ⟨by kernel_rfl, by kernel_rfl, by kernel_rfl⟩
instance : TLeaves Try.prog 147 (.i .i64 :: (.i .i64 :: [])) := ⟨by kernel_rfl, by kernel_rfl, by kernel_rfl⟩
abbrev fn_zkQ : FuncId := 5
def zkQ_c : ACode :=
  (.seq (.region [
      ⟨(some 0), .mov (.const (.bool false)), none, [], false⟩]) (.seq (.region [
      ⟨(some 16), .callV (.func 19) [], none, [], false⟩,
      ⟨(some 15), .mov (.tmp 16), none, [], false⟩,
      ⟨(some 17), .extract 0 (.tmp 15), none, [], false⟩,
      ⟨(some 18), .extract 1 (.tmp 15), none, [], false⟩,
      ⟨(some 19), .extract 2 (.tmp 15), none, [], false⟩,
      ⟨(some 1), .alloc 38 (z32 ++ [(.int .u8 0), (.int .u8 0), (.int .u8 0), (.int .u8 0), (.int .u64 0)]), none, [], false⟩,
      ⟨(some 2), .alloc 38 (z32 ++ [(.int .u8 0), (.int .u8 0), (.int .u8 0), (.int .u8 0), (.int .u64 0)]), none, [], false⟩,
      ⟨(some 3), .alloc 38 (z32 ++ [(.int .u8 0), (.int .u8 0), (.int .u8 0), (.int .u8 0), (.int .u64 0)]), none, [], false⟩,
      ⟨none, .store 37 (.tmp 1) (.tmp 17), none, [], false⟩,
      ⟨none, .store 37 (.tmp 2) (.tmp 18), none, [], false⟩,
      ⟨none, .store 37 (.tmp 3) (.tmp 19), none, [], false⟩]) (.seq (.region [
      ⟨(some 21), .callV (.func 9) [(.const (.int .i64 2))], none, [], false⟩,
      ⟨(some 20), .mov (.tmp 21), none, [], false⟩,
      ⟨(some 22), .extract 0 (.tmp 20), none, [], false⟩,
      ⟨(some 23), .extract 1 (.tmp 20), none, [], false⟩,
      ⟨(some 4), .mov (.tmp 22), none, [], false⟩,
      ⟨(some 5), .mov (.tmp 23), none, [], false⟩]) (.seq (.region [
      ⟨(some 25), .callV (.func 9) [(.const (.int .i64 (-1)))], none, [], false⟩,
      ⟨(some 24), .mov (.tmp 25), none, [], false⟩,
      ⟨(some 26), .extract 0 (.tmp 24), none, [], false⟩,
      ⟨(some 27), .extract 1 (.tmp 24), none, [], false⟩,
      ⟨(some 6), .mov (.tmp 26), none, [], false⟩,
      ⟨(some 7), .mov (.tmp 27), none, [], false⟩]) (.seq (.region [
      ⟨(some 29), .callV (.func 9) [(.const (.int .i64 4097))], none, [], false⟩,
      ⟨(some 28), .mov (.tmp 29), none, [], false⟩,
      ⟨(some 30), .extract 0 (.tmp 28), none, [], false⟩,
      ⟨(some 31), .extract 1 (.tmp 28), none, [], false⟩,
      ⟨(some 8), .mov (.tmp 30), none, [], false⟩,
      ⟨(some 9), .mov (.tmp 31), none, [], false⟩]) (.seq (.seq (.region [
      ⟨(some 32), .mov (.tmp 5), none, [], false⟩,
      ⟨(some 33), .bin .neq (so (.binOp .neq 25 (.tmp 32) (.const (.int .i64 0)) 25) 4) (.tmp 32) (.const (.int .i64 0)), none, [], false⟩,
      ⟨(some 34), .mov (.tmp 33), none, [], false⟩,
      ⟨(some 35), .mov (.tmp 4), (some (34, false)), [], false⟩,
      ⟨(some 36), .eq .ptr false (so (.binOp .eql 24 (.tmp 35) (.const (.pointer none)) 24) 4) (.tmp 35) (.const (.pointer none)), (some (34, false)), [], false⟩,
      ⟨(some 37), .pick (.tmp 34) (.const (.bool true)) (.tmp 36), none, [], false⟩]) (.cond (.tmp 37)
    (.seq (.region [
      ⟨(some 0), .mov (.const (.bool false)), none, [], false⟩]) .ret)
    .skip)) (.seq (.region [
      ⟨(some 39), .mov (.tmp 4), none, [], false⟩,
      ⟨(some 40), .callV (.func 14) [(.tmp 39)], none, [], false⟩,
      ⟨(some 38), .mov (.tmp 40), none, [], false⟩,
      ⟨(some 41), .extract 0 (.tmp 38), none, [], false⟩,
      ⟨(some 42), .extract 1 (.tmp 38), none, [], false⟩,
      ⟨(some 10), .mov (.tmp 41), none, [], false⟩,
      ⟨(some 11), .mov (.tmp 42), none, [], false⟩]) (.seq (.seq (.region [
      ⟨(some 43), .mov (.tmp 11), none, [], false⟩,
      ⟨(some 44), .bin .neq (so (.binOp .neq 25 (.tmp 43) (.const (.int .i64 0)) 25) 4) (.tmp 43) (.const (.int .i64 0)), none, [], false⟩,
      ⟨(some 45), .mov (.tmp 44), none, [], false⟩,
      ⟨(some 46), .mov (.tmp 10), (some (45, false)), [], false⟩,
      ⟨(some 47), .buildSlice 5 [(.int .u8 0)] 1 [(0, 1, (.const (.int .u8 0)))], (some (45, false)), [], false⟩,
      ⟨(some 48), .callV (.func 20) [(.tmp 46), (.tmp 47)], (some (45, false)), [], false⟩,
      ⟨(some 49), .raw (so (.unOp .not 4 (.tmp 48)) 4), (some (45, false)), [], false⟩,
      ⟨(some 50), .pick (.tmp 45) (.const (.bool true)) (.tmp 49), none, [], false⟩,
      ⟨(some 51), .mov (.tmp 50), none, [], false⟩,
      ⟨(some 52), .mov (.tmp 4), (some (51, false)), [], false⟩,
      ⟨(some 53), .load (some 37) (.tmp 1), (some (51, false)), [], false⟩,
      ⟨(some 54), .callV (.func 11) [(.tmp 52), (.tmp 53)], (some (51, false)), [], false⟩,
      ⟨(some 55), .bin .neq (so (.binOp .neq 25 (.tmp 54) (.const (.int .i64 0)) 25) 4) (.tmp 54) (.const (.int .i64 0)), (some (51, false)), [], false⟩,
      ⟨(some 56), .pick (.tmp 51) (.const (.bool true)) (.tmp 55), none, [], false⟩,
      ⟨(some 57), .mov (.tmp 56), none, [], false⟩,
      ⟨(some 58), .mov (.tmp 4), (some (57, false)), [], false⟩,
      ⟨(some 59), .load (some 37) (.tmp 2), (some (57, false)), [], false⟩,
      ⟨(some 60), .callV (.func 11) [(.tmp 58), (.tmp 59)], (some (57, false)), [], false⟩,
      ⟨(some 61), .bin .neq (so (.binOp .neq 25 (.tmp 60) (.const (.int .i64 0)) 25) 4) (.tmp 60) (.const (.int .i64 0)), (some (57, false)), [], false⟩,
      ⟨(some 62), .pick (.tmp 57) (.const (.bool true)) (.tmp 61), none, [], false⟩]) (.cond (.tmp 62)
    (.seq (.region [
      ⟨(some 0), .mov (.const (.bool false)), none, [], false⟩]) .ret)
    .skip)) (.seq (.region [
      ⟨(some 64), .mov (.tmp 4), none, [], false⟩,
      ⟨(some 65), .callV (.func 14) [(.tmp 64)], none, [], false⟩,
      ⟨(some 63), .mov (.tmp 65), none, [], false⟩,
      ⟨(some 66), .extract 0 (.tmp 63), none, [], false⟩,
      ⟨(some 67), .extract 1 (.tmp 63), none, [], false⟩,
      ⟨(some 12), .mov (.tmp 66), none, [], false⟩,
      ⟨(some 13), .mov (.tmp 67), none, [], false⟩]) (.seq (.seq (.region [
      ⟨(some 68), .mov (.tmp 13), none, [], false⟩,
      ⟨(some 69), .bin .neq (so (.binOp .neq 25 (.tmp 68) (.const (.int .i64 0)) 25) 4) (.tmp 68) (.const (.int .i64 0)), none, [], false⟩,
      ⟨(some 70), .mov (.tmp 69), none, [], false⟩,
      ⟨(some 71), .mov (.tmp 12), (some (70, false)), [], false⟩,
      ⟨(some 72), .lenSl (.tmp 71), (some (70, false)), [], false⟩,
      ⟨(some 73), .bin .neq (so (.binOp .neq 3 (.tmp 72) (.const (.int .i64 90)) 3) 4) (.tmp 72) (.const (.int .i64 90)), (some (70, false)), [], false⟩,
      ⟨(some 74), .pick (.tmp 70) (.const (.bool true)) (.tmp 73), none, [], false⟩]) (.cond (.tmp 74)
    (.seq (.region [
      ⟨(some 0), .mov (.const (.bool false)), none, [], false⟩]) .ret)
    .skip)) (.seq (.regionD [
      ⟨(some 76), .mov (.tmp 12), none, [], false⟩,
      ⟨(some 77), .sliceSl 1 (.tmp 76) none (some (.const (.int .i64 2))) none, none, [], false⟩,
      ⟨(some 79), .mov (.tmp 12), none, [], false⟩,
      ⟨(some 80), .sliceSl 1 (.tmp 79) (some (.const (.int .i64 46))) none none, none, [], false⟩,
      ⟨(some 82), .mov (.tmp 12), none, [], false⟩,
      ⟨(some 83), .sliceSl 1 (.tmp 82) (some (.const (.int .i64 2))) (some (.const (.int .i64 46))) none, none, [], false⟩,
      ⟨(some 75), .buildSlice 5 [] 0 [], none, [((some 83), .sliceSl 1 (.tmp 82) (some (.const (.int .i64 2))) (some (.const (.int .i64 46))) none, none), ((some 82), .mov (.tmp 12), none), ((some 80), .sliceSl 1 (.tmp 79) (some (.const (.int .i64 46))) none none, none), ((some 79), .mov (.tmp 12), none), ((some 77), .sliceSl 1 (.tmp 76) none (some (.const (.int .i64 2))) none, none), ((some 76), .mov (.tmp 12), none)], false⟩,
      ⟨(some 78), .append 5 1 1 [(.int .u8 0)] false (.tmp 75) (.tmp 77), none, [((some 83), .sliceSl 1 (.tmp 82) (some (.const (.int .i64 2))) (some (.const (.int .i64 46))) none, none), ((some 82), .mov (.tmp 12), none), ((some 80), .sliceSl 1 (.tmp 79) (some (.const (.int .i64 46))) none none, none), ((some 79), .mov (.tmp 12), none)], false⟩,
      ⟨(some 81), .append 5 1 1 [(.int .u8 0)] false (.tmp 78) (.tmp 80), none, [((some 83), .sliceSl 1 (.tmp 82) (some (.const (.int .i64 2))) (some (.const (.int .i64 46))) none, none), ((some 82), .mov (.tmp 12), none)], false⟩,
      ⟨(some 84), .append 5 1 1 [(.int .u8 0)] false (.tmp 81) (.tmp 83), none, [], true⟩,
      ⟨(some 14), .mov (.tmp 84), none, [], true⟩]) (.seq (.regionM [[
      ⟨(some 85), .callV (.func 8) [], none, [], true⟩,
      ⟨(some 86), .mov (.tmp 85), none, [], true⟩,
      ⟨(some 87), .mov (.tmp 7), (some (86, true)), [], true⟩,
      ⟨(some 88), .bin .eql (so (.binOp .eql 25 (.tmp 87) (.const (.int .i64 3)) 25) 4) (.tmp 87) (.const (.int .i64 3)), (some (86, true)), [], true⟩,
      ⟨(some 89), .pick (.tmp 86) (.tmp 88) (.const (.bool false)), none, [], true⟩,
      ⟨(some 90), .mov (.tmp 89), none, [], true⟩,
      ⟨(some 91), .mov (.tmp 9), (some (90, true)), [], true⟩,
      ⟨(some 92), .bin .eql (so (.binOp .eql 25 (.tmp 91) (.const (.int .i64 3)) 25) 4) (.tmp 91) (.const (.int .i64 3)), (some (90, true)), [], true⟩,
      ⟨(some 93), .pick (.tmp 90) (.tmp 92) (.const (.bool false)), none, [], true⟩,
      ⟨(some 94), .mov (.tmp 93), none, [], true⟩,
      ⟨(some 95), .mov (.tmp 4), (some (94, true)), [], false⟩,
      ⟨(some 97), .load (some 37) (.tmp 2), (some (94, true)), [], false⟩,
      ⟨(some 98), .load (some 37) (.tmp 1), (some (94, true)), [], false⟩,
      ⟨(some 96), .callV (.func 18) [(.tmp 95)], (some (94, true)), [((some 98), .load (some 37) (.tmp 1), (some (94, true))), ((some 97), .load (some 37) (.tmp 2), (some (94, true)))], false⟩,
      ⟨(some 99), .buildSlice 38 (z32 ++ ((.int .u8 0) :: ((.int .u8 0) :: ((.int .u8 0) :: ((.int .u8 0) :: ((.int .u64 0) :: (z32 ++ [(.int .u8 0), (.int .u8 0), (.int .u8 0), (.int .u8 0), (.int .u64 0)]))))))) 2 [(0, 37, (.tmp 97)), (37, 37, (.tmp 98))], (some (94, true)), [((some 95), .mov (.tmp 4), (some (94, true)))], false⟩,
      ⟨(some 100), .callV (.func 21) [(.tmp 96), (.tmp 99)], (some (94, true)), [], true⟩,
      ⟨(some 101), .pick (.tmp 94) (.tmp 100) (.const (.bool false)), none, [], true⟩,
      ⟨(some 102), .mov (.tmp 101), none, [], true⟩,
      ⟨(some 103), .mov (.tmp 4), (some (102, true)), [], false⟩,
      ⟨(some 104), .build z32 [], (some (102, true)), [], false⟩,
      ⟨(some 106), .build [(.int .u8 0), (.int .u8 0), (.int .u8 0), (.int .u8 0)] [(3, 1, (.const (.int .u8 1)))], (some (102, true)), [], false⟩,
      ⟨(some 105), .callV (.func 16) [(.tmp 103), (.tmp 104)], (some (102, true)), [((some 106), .build [(.int .u8 0), (.int .u8 0), (.int .u8 0), (.int .u8 0)] [(3, 1, (.const (.int .u8 1)))], (some (102, true)))], false⟩,
      ⟨(some 107), .buildSlice 33 [(.int .u8 0), (.int .u8 0), (.int .u8 0), (.int .u8 0)] 1 [(0, 4, (.tmp 106))], (some (102, true)), [((some 104), .build z32 [], (some (102, true))), ((some 103), .mov (.tmp 4), (some (102, true)))], false⟩,
      ⟨(some 108), .callV (.func 22) [(.tmp 105), (.tmp 107)], (some (102, true)), [], true⟩,
      ⟨(some 109), .pick (.tmp 102) (.tmp 108) (.const (.bool false)), none, [], true⟩,
      ⟨(some 110), .mov (.tmp 109), none, [], true⟩,
      ⟨(some 111), .buildSlice 5 [(.int .u8 0), (.int .u8 0)] 2 [(0, 1, (.const (.int .u8 1))), (1, 1, (.const (.int .u8 2)))], (some (110, true)), [], true⟩,
      ⟨(some 112), .callV (.func 23) [(.tmp 111), (.const (.int .i64 6)), (.const (.int .i64 2))], (some (110, true)), [], true⟩,
      ⟨(some 113), .pick (.tmp 110) (.tmp 112) (.const (.bool false)), none, [], true⟩,
      ⟨(some 114), .mov (.tmp 113), none, [], true⟩,
      ⟨(some 115), .mov (.tmp 14), (some (114, true)), [], true⟩,
      ⟨(some 116), .callV (.func 23) [(.tmp 115), (.const (.int .i64 9)), (.const (.int .i64 46))], (some (114, true)), [], true⟩,
      ⟨(some 117), .pick (.tmp 114) (.tmp 116) (.const (.bool false)), none, [], true⟩,
      ⟨(some 0), .mov (.tmp 117), none, [], true⟩],
    [
      ⟨(some 85), .callV (.func 8) [], none, [], true⟩,
      ⟨(some 86), .mov (.tmp 85), none, [], true⟩,
      ⟨(some 87), .mov (.tmp 7), (some (86, true)), [], true⟩,
      ⟨(some 88), .bin .eql (so (.binOp .eql 25 (.tmp 87) (.const (.int .i64 3)) 25) 4) (.tmp 87) (.const (.int .i64 3)), (some (86, true)), [], true⟩,
      ⟨(some 89), .pick (.tmp 86) (.tmp 88) (.const (.bool false)), none, [], true⟩,
      ⟨(some 90), .mov (.tmp 89), none, [], true⟩,
      ⟨(some 91), .mov (.tmp 9), (some (90, true)), [], true⟩,
      ⟨(some 92), .bin .eql (so (.binOp .eql 25 (.tmp 91) (.const (.int .i64 3)) 25) 4) (.tmp 91) (.const (.int .i64 3)), (some (90, true)), [], true⟩,
      ⟨(some 93), .pick (.tmp 90) (.tmp 92) (.const (.bool false)), none, [], true⟩,
      ⟨(some 94), .mov (.tmp 93), none, [], true⟩,
      ⟨(some 95), .mov (.tmp 4), (some (94, true)), [], false⟩,
      ⟨(some 97), .load (some 37) (.tmp 2), (some (94, true)), [], false⟩,
      ⟨(some 98), .load (some 37) (.tmp 1), (some (94, true)), [], false⟩,
      ⟨(some 96), .callV (.func 18) [(.tmp 95)], (some (94, true)), [((some 98), .load (some 37) (.tmp 1), (some (94, true))), ((some 97), .load (some 37) (.tmp 2), (some (94, true)))], false⟩,
      ⟨(some 99), .buildSlice 38 (z32 ++ ((.int .u8 0) :: ((.int .u8 0) :: ((.int .u8 0) :: ((.int .u8 0) :: ((.int .u64 0) :: (z32 ++ [(.int .u8 0), (.int .u8 0), (.int .u8 0), (.int .u8 0), (.int .u64 0)]))))))) 2 [(0, 37, (.tmp 97)), (37, 37, (.tmp 98))], (some (94, true)), [((some 95), .mov (.tmp 4), (some (94, true)))], false⟩,
      ⟨(some 100), .callV (.func 21) [(.tmp 96), (.tmp 99)], (some (94, true)), [], true⟩,
      ⟨(some 101), .pick (.tmp 94) (.tmp 100) (.const (.bool false)), none, [], true⟩,
      ⟨(some 102), .mov (.tmp 101), none, [], true⟩,
      ⟨(some 103), .mov (.tmp 4), (some (102, true)), [], false⟩,
      ⟨(some 104), .build z32 [], (some (102, true)), [], false⟩,
      ⟨(some 106), .build [(.int .u8 0), (.int .u8 0), (.int .u8 0), (.int .u8 0)] [(3, 1, (.const (.int .u8 1)))], (some (102, true)), [], false⟩,
      ⟨(some 107), .buildSlice 33 [(.int .u8 0), (.int .u8 0), (.int .u8 0), (.int .u8 0)] 1 [(0, 4, (.tmp 106))], (some (102, true)), [((some 104), .build z32 [], (some (102, true))), ((some 103), .mov (.tmp 4), (some (102, true)))], false⟩,
      ⟨(some 105), .callV (.func 16) [(.tmp 103), (.tmp 104)], (some (102, true)), [((some 106), .build [(.int .u8 0), (.int .u8 0), (.int .u8 0), (.int .u8 0)] [(3, 1, (.const (.int .u8 1)))], (some (102, true)))], false⟩,
      ⟨(some 108), .callV (.func 22) [(.tmp 105), (.tmp 107)], (some (102, true)), [], true⟩,
      ⟨(some 109), .pick (.tmp 102) (.tmp 108) (.const (.bool false)), none, [], true⟩,
      ⟨(some 110), .mov (.tmp 109), none, [], true⟩,
      ⟨(some 111), .buildSlice 5 [(.int .u8 0), (.int .u8 0)] 2 [(0, 1, (.const (.int .u8 1))), (1, 1, (.const (.int .u8 2)))], (some (110, true)), [], true⟩,
      ⟨(some 112), .callV (.func 23) [(.tmp 111), (.const (.int .i64 6)), (.const (.int .i64 2))], (some (110, true)), [], true⟩,
      ⟨(some 113), .pick (.tmp 110) (.tmp 112) (.const (.bool false)), none, [], true⟩,
      ⟨(some 114), .mov (.tmp 113), none, [], true⟩,
      ⟨(some 115), .mov (.tmp 14), (some (114, true)), [], true⟩,
      ⟨(some 116), .callV (.func 23) [(.tmp 115), (.const (.int .i64 9)), (.const (.int .i64 46))], (some (114, true)), [], true⟩,
      ⟨(some 117), .pick (.tmp 114) (.tmp 116) (.const (.bool false)), none, [], true⟩,
      ⟨(some 0), .mov (.tmp 117), none, [], true⟩],
    [
      ⟨(some 85), .callV (.func 8) [], none, [], true⟩,
      ⟨(some 86), .mov (.tmp 85), none, [], true⟩,
      ⟨(some 87), .mov (.tmp 7), (some (86, true)), [], true⟩,
      ⟨(some 88), .bin .eql (so (.binOp .eql 25 (.tmp 87) (.const (.int .i64 3)) 25) 4) (.tmp 87) (.const (.int .i64 3)), (some (86, true)), [], true⟩,
      ⟨(some 89), .pick (.tmp 86) (.tmp 88) (.const (.bool false)), none, [], true⟩,
      ⟨(some 90), .mov (.tmp 89), none, [], true⟩,
      ⟨(some 91), .mov (.tmp 9), (some (90, true)), [], true⟩,
      ⟨(some 92), .bin .eql (so (.binOp .eql 25 (.tmp 91) (.const (.int .i64 3)) 25) 4) (.tmp 91) (.const (.int .i64 3)), (some (90, true)), [], true⟩,
      ⟨(some 93), .pick (.tmp 90) (.tmp 92) (.const (.bool false)), none, [], true⟩,
      ⟨(some 94), .mov (.tmp 93), none, [], true⟩,
      ⟨(some 95), .mov (.tmp 4), (some (94, true)), [], false⟩,
      ⟨(some 97), .load (some 37) (.tmp 2), (some (94, true)), [], false⟩,
      ⟨(some 98), .load (some 37) (.tmp 1), (some (94, true)), [], false⟩,
      ⟨(some 99), .buildSlice 38 (z32 ++ ((.int .u8 0) :: ((.int .u8 0) :: ((.int .u8 0) :: ((.int .u8 0) :: ((.int .u64 0) :: (z32 ++ [(.int .u8 0), (.int .u8 0), (.int .u8 0), (.int .u8 0), (.int .u64 0)]))))))) 2 [(0, 37, (.tmp 97)), (37, 37, (.tmp 98))], (some (94, true)), [((some 95), .mov (.tmp 4), (some (94, true)))], false⟩,
      ⟨(some 96), .callV (.func 18) [(.tmp 95)], (some (94, true)), [((some 98), .load (some 37) (.tmp 1), (some (94, true))), ((some 97), .load (some 37) (.tmp 2), (some (94, true)))], false⟩,
      ⟨(some 100), .callV (.func 21) [(.tmp 96), (.tmp 99)], (some (94, true)), [], true⟩,
      ⟨(some 101), .pick (.tmp 94) (.tmp 100) (.const (.bool false)), none, [], true⟩,
      ⟨(some 102), .mov (.tmp 101), none, [], true⟩,
      ⟨(some 103), .mov (.tmp 4), (some (102, true)), [], false⟩,
      ⟨(some 104), .build z32 [], (some (102, true)), [], false⟩,
      ⟨(some 106), .build [(.int .u8 0), (.int .u8 0), (.int .u8 0), (.int .u8 0)] [(3, 1, (.const (.int .u8 1)))], (some (102, true)), [], false⟩,
      ⟨(some 105), .callV (.func 16) [(.tmp 103), (.tmp 104)], (some (102, true)), [((some 106), .build [(.int .u8 0), (.int .u8 0), (.int .u8 0), (.int .u8 0)] [(3, 1, (.const (.int .u8 1)))], (some (102, true)))], false⟩,
      ⟨(some 107), .buildSlice 33 [(.int .u8 0), (.int .u8 0), (.int .u8 0), (.int .u8 0)] 1 [(0, 4, (.tmp 106))], (some (102, true)), [((some 104), .build z32 [], (some (102, true))), ((some 103), .mov (.tmp 4), (some (102, true)))], false⟩,
      ⟨(some 108), .callV (.func 22) [(.tmp 105), (.tmp 107)], (some (102, true)), [], true⟩,
      ⟨(some 109), .pick (.tmp 102) (.tmp 108) (.const (.bool false)), none, [], true⟩,
      ⟨(some 110), .mov (.tmp 109), none, [], true⟩,
      ⟨(some 111), .buildSlice 5 [(.int .u8 0), (.int .u8 0)] 2 [(0, 1, (.const (.int .u8 1))), (1, 1, (.const (.int .u8 2)))], (some (110, true)), [], true⟩,
      ⟨(some 112), .callV (.func 23) [(.tmp 111), (.const (.int .i64 6)), (.const (.int .i64 2))], (some (110, true)), [], true⟩,
      ⟨(some 113), .pick (.tmp 110) (.tmp 112) (.const (.bool false)), none, [], true⟩,
      ⟨(some 114), .mov (.tmp 113), none, [], true⟩,
      ⟨(some 115), .mov (.tmp 14), (some (114, true)), [], true⟩,
      ⟨(some 116), .callV (.func 23) [(.tmp 115), (.const (.int .i64 9)), (.const (.int .i64 46))], (some (114, true)), [], true⟩,
      ⟨(some 117), .pick (.tmp 114) (.tmp 116) (.const (.bool false)), none, [], true⟩,
      ⟨(some 0), .mov (.tmp 117), none, [], true⟩],
    [
      ⟨(some 85), .callV (.func 8) [], none, [], true⟩,
      ⟨(some 86), .mov (.tmp 85), none, [], true⟩,
      ⟨(some 87), .mov (.tmp 7), (some (86, true)), [], true⟩,
      ⟨(some 88), .bin .eql (so (.binOp .eql 25 (.tmp 87) (.const (.int .i64 3)) 25) 4) (.tmp 87) (.const (.int .i64 3)), (some (86, true)), [], true⟩,
      ⟨(some 89), .pick (.tmp 86) (.tmp 88) (.const (.bool false)), none, [], true⟩,
      ⟨(some 90), .mov (.tmp 89), none, [], true⟩,
      ⟨(some 91), .mov (.tmp 9), (some (90, true)), [], true⟩,
      ⟨(some 92), .bin .eql (so (.binOp .eql 25 (.tmp 91) (.const (.int .i64 3)) 25) 4) (.tmp 91) (.const (.int .i64 3)), (some (90, true)), [], true⟩,
      ⟨(some 93), .pick (.tmp 90) (.tmp 92) (.const (.bool false)), none, [], true⟩,
      ⟨(some 94), .mov (.tmp 93), none, [], true⟩,
      ⟨(some 95), .mov (.tmp 4), (some (94, true)), [], false⟩,
      ⟨(some 97), .load (some 37) (.tmp 2), (some (94, true)), [], false⟩,
      ⟨(some 98), .load (some 37) (.tmp 1), (some (94, true)), [], false⟩,
      ⟨(some 99), .buildSlice 38 (z32 ++ ((.int .u8 0) :: ((.int .u8 0) :: ((.int .u8 0) :: ((.int .u8 0) :: ((.int .u64 0) :: (z32 ++ [(.int .u8 0), (.int .u8 0), (.int .u8 0), (.int .u8 0), (.int .u64 0)]))))))) 2 [(0, 37, (.tmp 97)), (37, 37, (.tmp 98))], (some (94, true)), [((some 95), .mov (.tmp 4), (some (94, true)))], false⟩,
      ⟨(some 96), .callV (.func 18) [(.tmp 95)], (some (94, true)), [((some 98), .load (some 37) (.tmp 1), (some (94, true))), ((some 97), .load (some 37) (.tmp 2), (some (94, true)))], false⟩,
      ⟨(some 100), .callV (.func 21) [(.tmp 96), (.tmp 99)], (some (94, true)), [], true⟩,
      ⟨(some 101), .pick (.tmp 94) (.tmp 100) (.const (.bool false)), none, [], true⟩,
      ⟨(some 102), .mov (.tmp 101), none, [], true⟩,
      ⟨(some 103), .mov (.tmp 4), (some (102, true)), [], false⟩,
      ⟨(some 104), .build z32 [], (some (102, true)), [], false⟩,
      ⟨(some 106), .build [(.int .u8 0), (.int .u8 0), (.int .u8 0), (.int .u8 0)] [(3, 1, (.const (.int .u8 1)))], (some (102, true)), [], false⟩,
      ⟨(some 107), .buildSlice 33 [(.int .u8 0), (.int .u8 0), (.int .u8 0), (.int .u8 0)] 1 [(0, 4, (.tmp 106))], (some (102, true)), [((some 104), .build z32 [], (some (102, true))), ((some 103), .mov (.tmp 4), (some (102, true)))], false⟩,
      ⟨(some 105), .callV (.func 16) [(.tmp 103), (.tmp 104)], (some (102, true)), [((some 106), .build [(.int .u8 0), (.int .u8 0), (.int .u8 0), (.int .u8 0)] [(3, 1, (.const (.int .u8 1)))], (some (102, true)))], false⟩,
      ⟨(some 108), .callV (.func 22) [(.tmp 105), (.tmp 107)], (some (102, true)), [], true⟩,
      ⟨(some 109), .pick (.tmp 102) (.tmp 108) (.const (.bool false)), none, [], true⟩,
      ⟨(some 110), .mov (.tmp 109), none, [], true⟩,
      ⟨(some 111), .buildSlice 5 [(.int .u8 0), (.int .u8 0)] 2 [(0, 1, (.const (.int .u8 1))), (1, 1, (.const (.int .u8 2)))], (some (110, true)), [], true⟩,
      ⟨(some 112), .callV (.func 23) [(.tmp 111), (.const (.int .i64 6)), (.const (.int .i64 2))], (some (110, true)), [], true⟩,
      ⟨(some 113), .pick (.tmp 110) (.tmp 112) (.const (.bool false)), none, [], true⟩,
      ⟨(some 114), .mov (.tmp 113), none, [], true⟩,
      ⟨(some 115), .mov (.tmp 14), (some (114, true)), [], true⟩,
      ⟨(some 116), .callV (.func 23) [(.tmp 115), (.const (.int .i64 9)), (.const (.int .i64 46))], (some (114, true)), [], true⟩,
      ⟨(some 117), .pick (.tmp 114) (.tmp 116) (.const (.bool false)), none, [], true⟩,
      ⟨(some 0), .mov (.tmp 117), none, [], true⟩]]) .ret))))))))))))
def zkQ : AFunc := ⟨118, [(0, none)], zkQ_c, none⟩
theorem zkQ_t0 : tableOf Try.prog 5 = some zkQ := by kernel_rfl
abbrev fn_zmQ : FuncId := 8
def zmQ_c : ACode :=
  (.seq (.region [
      ⟨(some 0), .mov (.const (.bool false)), none, [], false⟩]) (.seq (.region [
      ⟨(some 7), .callV (.func 19) [], none, [], false⟩,
      ⟨(some 6), .mov (.tmp 7), none, [], false⟩,
      ⟨(some 8), .extract 0 (.tmp 6), none, [], false⟩,
      ⟨(some 9), .extract 1 (.tmp 6), none, [], false⟩,
      ⟨(some 10), .extract 2 (.tmp 6), none, [], false⟩,
      ⟨(some 1), .alloc 38 (z32 ++ [(.int .u8 0), (.int .u8 0), (.int .u8 0), (.int .u8 0), (.int .u64 0)]), none, [], false⟩,
      ⟨(some 2), .alloc 38 (z32 ++ [(.int .u8 0), (.int .u8 0), (.int .u8 0), (.int .u8 0), (.int .u64 0)]), none, [], false⟩,
      ⟨(some 3), .alloc 38 (z32 ++ [(.int .u8 0), (.int .u8 0), (.int .u8 0), (.int .u8 0), (.int .u64 0)]), none, [], false⟩,
      ⟨none, .store 37 (.tmp 1) (.tmp 8), none, [], false⟩,
      ⟨none, .store 37 (.tmp 2) (.tmp 9), none, [], false⟩,
      ⟨none, .store 37 (.tmp 3) (.tmp 10), none, [], false⟩]) (.seq (.region [
      ⟨(some 12), .callV (.func 9) [(.const (.int .i64 2))], none, [], false⟩,
      ⟨(some 11), .mov (.tmp 12), none, [], false⟩,
      ⟨(some 13), .extract 0 (.tmp 11), none, [], false⟩,
      ⟨(some 14), .extract 1 (.tmp 11), none, [], false⟩,
      ⟨(some 4), .mov (.tmp 13), none, [], false⟩,
      ⟨(some 5), .mov (.tmp 14), none, [], false⟩]) (.seq (.region [
      ⟨(some 15), .mov (.tmp 5), none, [], false⟩,
      ⟨(some 16), .bin .eql (so (.binOp .eql 25 (.tmp 15) (.const (.int .i64 0)) 25) 4) (.tmp 15) (.const (.int .i64 0)), none, [], false⟩,
      ⟨(some 17), .mov (.tmp 16), none, [], false⟩,
      ⟨(some 18), .mov (.tmp 4), (some (17, true)), [], false⟩,
      ⟨(some 19), .eq .ptr true (so (.binOp .neq 24 (.tmp 18) (.const (.pointer none)) 24) 4) (.tmp 18) (.const (.pointer none)), (some (17, true)), [], false⟩,
      ⟨(some 20), .pick (.tmp 17) (.tmp 19) (.const (.bool false)), none, [], false⟩,
      ⟨(some 21), .mov (.tmp 20), none, [], false⟩,
      ⟨(some 22), .mov (.tmp 4), (some (21, true)), [], false⟩,
      ⟨(some 23), .load (some 37) (.tmp 1), (some (21, true)), [], false⟩,
      ⟨(some 24), .callV (.func 11) [(.tmp 22), (.tmp 23)], (some (21, true)), [], false⟩,
      ⟨(some 25), .bin .eql (so (.binOp .eql 25 (.tmp 24) (.const (.int .i64 0)) 25) 4) (.tmp 24) (.const (.int .i64 0)), (some (21, true)), [], false⟩,
      ⟨(some 26), .pick (.tmp 21) (.tmp 25) (.const (.bool false)), none, [], false⟩,
      ⟨(some 27), .mov (.tmp 26), none, [], false⟩,
      ⟨(some 28), .mov (.tmp 4), (some (27, true)), [], false⟩,
      ⟨(some 29), .load (some 37) (.tmp 1), (some (27, true)), [], false⟩,
      ⟨(some 30), .callV (.func 11) [(.tmp 28), (.tmp 29)], (some (27, true)), [], false⟩,
      ⟨(some 31), .bin .eql (so (.binOp .eql 25 (.tmp 30) (.const (.int .i64 8)) 25) 4) (.tmp 30) (.const (.int .i64 8)), (some (27, true)), [], false⟩,
      ⟨(some 32), .pick (.tmp 27) (.tmp 31) (.const (.bool false)), none, [], false⟩,
      ⟨(some 33), .mov (.tmp 32), none, [], false⟩,
      ⟨(some 34), .mov (.tmp 4), (some (33, true)), [], false⟩,
      ⟨(some 35), .load (some 37) (.tmp 2), (some (33, true)), [], false⟩,
      ⟨(some 36), .callV (.func 11) [(.tmp 34), (.tmp 35)], (some (33, true)), [], false⟩,
      ⟨(some 37), .bin .eql (so (.binOp .eql 25 (.tmp 36) (.const (.int .i64 0)) 25) 4) (.tmp 36) (.const (.int .i64 0)), (some (33, true)), [], false⟩,
      ⟨(some 38), .pick (.tmp 33) (.tmp 37) (.const (.bool false)), none, [], false⟩,
      ⟨(some 39), .mov (.tmp 38), none, [], false⟩,
      ⟨(some 40), .mov (.tmp 4), (some (39, true)), [], false⟩,
      ⟨(some 41), .load (some 37) (.tmp 3), (some (39, true)), [], false⟩,
      ⟨(some 42), .callV (.func 11) [(.tmp 40), (.tmp 41)], (some (39, true)), [], false⟩,
      ⟨(some 43), .bin .eql (so (.binOp .eql 25 (.tmp 42) (.const (.int .i64 7)) 25) 4) (.tmp 42) (.const (.int .i64 7)), (some (39, true)), [], false⟩,
      ⟨(some 44), .pick (.tmp 39) (.tmp 43) (.const (.bool false)), none, [], false⟩,
      ⟨(some 45), .mov (.tmp 44), none, [], false⟩,
      ⟨(some 46), .mov (.tmp 4), (some (45, true)), [], false⟩,
      ⟨(some 47), .load (some 37) (.tmp 2), (some (45, true)), [], false⟩,
      ⟨(some 48), .callV (.func 15) [(.tmp 46), (.tmp 47)], (some (45, true)), [], false⟩,
      ⟨(some 49), .pick (.tmp 45) (.tmp 48) (.const (.bool false)), none, [], false⟩,
      ⟨(some 50), .mov (.tmp 49), none, [], false⟩,
      ⟨(some 51), .mov (.tmp 4), (some (50, true)), [], false⟩,
      ⟨(some 52), .load (some 37) (.tmp 3), (some (50, true)), [], false⟩,
      ⟨(some 53), .callV (.func 15) [(.tmp 51), (.tmp 52)], (some (50, true)), [], false⟩,
      ⟨(some 54), .raw (so (.unOp .not 4 (.tmp 53)) 4), (some (50, true)), [], false⟩,
      ⟨(some 55), .pick (.tmp 50) (.tmp 54) (.const (.bool false)), none, [], false⟩,
      ⟨(some 56), .mov (.tmp 55), none, [], false⟩,
      ⟨(some 57), .mov (.tmp 4), (some (56, true)), [], false⟩,
      ⟨(some 58), .callV (.func 17) [(.tmp 57)], (some (56, true)), [], false⟩,
      ⟨(some 59), .bin .eql (so (.binOp .eql 3 (.tmp 58) (.const (.int .i64 2)) 3) 4) (.tmp 58) (.const (.int .i64 2)), (some (56, true)), [], false⟩,
      ⟨(some 60), .pick (.tmp 56) (.tmp 59) (.const (.bool false)), none, [], false⟩,
      ⟨(some 0), .mov (.tmp 60), none, [], false⟩]) .ret))))
def zmQ : AFunc := ⟨61, [(0, none)], zmQ_c, none⟩
theorem zmQ_t0 : tableOf Try.prog 8 = some zmQ := by kernel_rfl
def zpQ_c : ACode :=
  (.seq (.region [
      ⟨(some 0), .alloc 38 (z32 ++ [(.int .u8 0), (.int .u8 0), (.int .u8 0), (.int .u8 0), (.int .u64 0)]), none, [], false⟩,
      ⟨(some 1), .alloc 38 (z32 ++ [(.int .u8 0), (.int .u8 0), (.int .u8 0), (.int .u8 0), (.int .u64 0)]), none, [], false⟩,
      ⟨(some 2), .alloc 38 (z32 ++ [(.int .u8 0), (.int .u8 0), (.int .u8 0), (.int .u8 0), (.int .u64 0)]), none, [], false⟩]) (.seq (.region [
      ⟨(some 3), .build [(.int .u8 0), (.int .u8 0), (.int .u8 0), (.int .u8 0)] [(3, 1, (.const (.int .u8 1)))], none, [], false⟩,
      ⟨(some 4), .build (z32 ++ [(.int .u8 0), (.int .u8 0), (.int .u8 0), (.int .u8 0), (.int .u64 0)]) [(0, 4, (.tmp 3)), (36, 1, (.const (.int .u64 7)))], none, [], false⟩,
      ⟨(some 5), .build [(.int .u8 0), (.int .u8 0), (.int .u8 0), (.int .u8 0)] [(3, 1, (.const (.int .u8 1)))], none, [], false⟩,
      ⟨(some 6), .build (z32 ++ [(.int .u8 0), (.int .u8 0), (.int .u8 0), (.int .u8 0), (.int .u64 0)]) [(0, 4, (.tmp 5)), (36, 1, (.const (.int .u64 5)))], none, [], false⟩,
      ⟨(some 7), .build [(.int .u8 0), (.int .u8 0), (.int .u8 0), (.int .u8 0)] [(3, 1, (.const (.int .u8 2)))], none, [], false⟩,
      ⟨(some 8), .build (z32 ++ [(.int .u8 0), (.int .u8 0), (.int .u8 0), (.int .u8 0), (.int .u64 0)]) [(0, 4, (.tmp 7)), (36, 1, (.const (.int .u64 1)))], none, [], false⟩,
      ⟨none, .store 37 (.tmp 0) (.tmp 4), none, [], false⟩,
      ⟨none, .store 37 (.tmp 1) (.tmp 6), none, [], false⟩,
      ⟨none, .store 37 (.tmp 2) (.tmp 8), none, [], false⟩]) .ret))
def zpQ : AFunc := ⟨9, [(0, some (some 37)), (1, some (some 37)), (2, some (some 37))], zpQ_c, none⟩
theorem zpQ_t0 : tableOf Try.prog 19 = some zpQ := by kernel_rfl
def zqQ_c : ACode :=
  (.seq (.region [
      ⟨(some 6), .mov (.const (.bool false)), none, [], false⟩]) (.seq (.region [
      ⟨(some 10), .mov (.tmp 0), none, [], false⟩,
      ⟨(some 11), .callV (.func 25) [(.tmp 10)], none, [], false⟩,
      ⟨(some 9), .mov (.tmp 11), none, [], false⟩,
      ⟨(some 12), .extract 0 (.tmp 9), none, [], false⟩,
      ⟨(some 13), .extract 1 (.tmp 9), none, [], false⟩,
      ⟨(some 8), .alloc 62 [(.int .i64 0), (.int .i64 0)], none, [], false⟩,
      ⟨(some 7), .mov (.tmp 12), none, [], false⟩,
      ⟨none, .store 2 (.tmp 8) (.tmp 13), none, [], false⟩]) (.seq (.region [
      ⟨(some 14), .mov (.tmp 7), none, [], false⟩,
      ⟨(some 15), .eq .ptr false (so (.binOp .eql 24 (.tmp 14) (.const (.pointer none)) 24) 4) (.tmp 14) (.const (.pointer none)), none, [], false⟩,
      ⟨(some 16), .mov (.tmp 15), none, [], false⟩,
      ⟨(some 17), .load (some 2) (.tmp 8), (some (16, true)), [], false⟩,
      ⟨(some 18), .mov (.tmp 1), (some (16, true)), [], false⟩,
      ⟨(some 19), .mov (.tmp 2), (some (16, true)), [], false⟩,
      ⟨(some 20), .build [(.int .i64 0), (.int .i64 0)] [(0, 1, (.tmp 18)), (1, 1, (.tmp 19))], (some (16, true)), [], false⟩,
      ⟨(some 21), .bin .eql (so (.binOp .eql 62 (.tmp 17) (.tmp 20) 62) 4) (.tmp 17) (.tmp 20), (some (16, true)), [], false⟩,
      ⟨(some 22), .pick (.tmp 16) (.tmp 21) (.const (.bool false)), none, [], false⟩,
      ⟨(some 6), .mov (.tmp 22), none, [], false⟩]) .ret)))
def zqQ : AFunc := ⟨23, [(6, none)], zqQ_c, none⟩
theorem zqQ_t0 : tableOf Try.prog 23 = some zqQ := by kernel_rfl
def table : TT :=
  (.node (.node (.node (.node (.node (.node (.node .nil 5 zkQ .nil) 8 zmQ .nil) 9 zmbQ (.node (.node .nil 11 znbQ .nil) 14 zobQ .nil)) 15 zpbQ (.node (.node (.node .nil 16 zsbQ .nil) 17 zqbQ .nil) 18 zrbQ (.node .nil 19 zpQ .nil))) 20 zgQ (.node (.node (.node (.node .nil 21 zhQ .nil) 22 znQ .nil) 23 zqQ (.node (.node .nil 25 zlbQ .nil) 26 ztbQ .nil)) 32 zvcQ (.node (.node (.node .nil 33 zndQ .nil) 34 zwbQ .nil) 35 zmdQ (.node .nil 36 zldQ .nil)))) 37 zodQ (.node (.node (.node (.node (.node .nil 38 zkdQ .nil) 39 zubQ .nil) 40 zucQ (.node (.node .nil 41 zddQ .nil) 42 zedQ .nil)) 43 zadQ (.node (.node (.node .nil 44 zxcQ .nil) 45 zfdQ .nil) 46 zwcQ (.node .nil 47 zxbQ .nil))) 54 zpdQ (.node (.node (.node (.node .nil 55 zsdQ .nil) 56 zecQ .nil) 57 zgbQ (.node .nil 58 zaeQ .nil)) 59 zzbQ (.node (.node (.node .nil 60 zvbQ .nil) 61 zvdQ .nil) 62 zidQ (.node .nil 63 zudQ .nil))))) 64 zbdQ (.node (.node (.node (.node (.node (.node .nil 65 zydQ .nil) 66 zcdQ .nil) 67 ztdQ (.node (.node .nil 68 zycQ .nil) 69 zxdQ .nil)) 70 zzcQ (.node (.node (.node .nil 71 zwdQ .nil) 72 zgdQ .nil) 73 zzdQ (.node .nil 74 zqdQ .nil))) 75 zcQ (.node (.node (.node (.node .nil 76 zaQ .nil) 77 zbQ .nil) 81 zbcQ (.node .nil 82 zacQ .nil)) 83 zdcQ (.node (.node (.node .nil 84 zhbQ .nil) 85 zhdQ .nil) 86 zrdQ (.node .nil 87 zjdQ .nil)))) 89 zdQ (.node (.node (.node (.node (.node .nil 90 zccQ .nil) 91 zybQ .nil) 92 zqcQ (.node (.node .nil 93 zibQ .nil) 94 zicQ .nil)) 95 zhcQ (.node (.node (.node .nil 96 zfcQ .nil) 97 zgcQ .nil) 98 zrcQ (.node .nil 99 zncQ .nil))) 100 zpcQ (.node (.node (.node (.node .nil 101 zocQ .nil) 102 zjbQ .nil) 103 zkbQ (.node .nil 104 zscQ .nil)) 105 zlcQ (.node (.node (.node .nil 106 ztcQ .nil) 107 zjcQ .nil) 108 zkcQ (.node .nil 109 zmcQ .nil))))))
theorem table_all : table.All Try.prog := ⟨zbdQ_t0, ⟨zodQ_t0, ⟨zgQ_t0, ⟨zpbQ_t0, ⟨zmbQ_t0, ⟨zmQ_t0, ⟨zkQ_t0, trivial, trivial⟩, trivial⟩, ⟨zobQ_t0, ⟨znbQ_t0, trivial, trivial⟩, trivial⟩⟩, ⟨zrbQ_t0, ⟨zqbQ_t0, ⟨zsbQ_t0, trivial, trivial⟩, trivial⟩, ⟨zpQ_t0, trivial, trivial⟩⟩⟩, ⟨zvcQ_t0, ⟨zqQ_t0, ⟨znQ_t0, ⟨zhQ_t0, trivial, trivial⟩, trivial⟩, ⟨ztbQ_t0, ⟨zlbQ_t0, trivial, trivial⟩, trivial⟩⟩, ⟨zmdQ_t0, ⟨zwbQ_t0, ⟨zndQ_t0, trivial, trivial⟩, trivial⟩, ⟨zldQ_t0, trivial, trivial⟩⟩⟩⟩, ⟨zpdQ_t0, ⟨zadQ_t0, ⟨zucQ_t0, ⟨zubQ_t0, ⟨zkdQ_t0, trivial, trivial⟩, trivial⟩, ⟨zedQ_t0, ⟨zddQ_t0, trivial, trivial⟩, trivial⟩⟩, ⟨zwcQ_t0, ⟨zfdQ_t0, ⟨zxcQ_t0, trivial, trivial⟩, trivial⟩, ⟨zxbQ_t0, trivial, trivial⟩⟩⟩, ⟨zzbQ_t0, ⟨zgbQ_t0, ⟨zecQ_t0, ⟨zsdQ_t0, trivial, trivial⟩, trivial⟩, ⟨zaeQ_t0, trivial, trivial⟩⟩, ⟨zidQ_t0, ⟨zvdQ_t0, ⟨zvbQ_t0, trivial, trivial⟩, trivial⟩, ⟨zudQ_t0, trivial, trivial⟩⟩⟩⟩⟩, ⟨zdQ_t0, ⟨zcQ_t0, ⟨zzcQ_t0, ⟨ztdQ_t0, ⟨zcdQ_t0, ⟨zydQ_t0, trivial, trivial⟩, trivial⟩, ⟨zxdQ_t0, ⟨zycQ_t0, trivial, trivial⟩, trivial⟩⟩, ⟨zzdQ_t0, ⟨zgdQ_t0, ⟨zwdQ_t0, trivial, trivial⟩, trivial⟩, ⟨zqdQ_t0, trivial, trivial⟩⟩⟩, ⟨zdcQ_t0, ⟨zbcQ_t0, ⟨zbQ_t0, ⟨zaQ_t0, trivial, trivial⟩, trivial⟩, ⟨zacQ_t0, trivial, trivial⟩⟩, ⟨zrdQ_t0, ⟨zhdQ_t0, ⟨zhbQ_t0, trivial, trivial⟩, trivial⟩, ⟨zjdQ_t0, trivial, trivial⟩⟩⟩⟩, ⟨zpcQ_t0, ⟨zhcQ_t0, ⟨zqcQ_t0, ⟨zybQ_t0, ⟨zccQ_t0, trivial, trivial⟩, trivial⟩, ⟨zicQ_t0, ⟨zibQ_t0, trivial, trivial⟩, trivial⟩⟩, ⟨zrcQ_t0, ⟨zgcQ_t0, ⟨zfcQ_t0, trivial, trivial⟩, trivial⟩, ⟨zncQ_t0, trivial, trivial⟩⟩⟩, ⟨zlcQ_t0, ⟨zkbQ_t0, ⟨zjbQ_t0, ⟨zocQ_t0, trivial, trivial⟩, trivial⟩, ⟨zscQ_t0, trivial, trivial⟩⟩, ⟨zkcQ_t0, ⟨zjcQ_t0, ⟨ztcQ_t0, trivial, trivial⟩, trivial⟩, ⟨zmcQ_t0, trivial, trivial⟩⟩⟩⟩⟩⟩
end Go.Proofs.Ytagmnpeilgnbdaa.R

namespace Go.Proofs.Ytagmnpeilgnbdaa.R
open Go Go.Vm
set_option maxRecDepth 100000
def rep (n : Nat) (v : Value) (l : List Value) : List Value := List.replicate n v ++ l
def ob_1 : AObj := .cells ((.int .u8 0) :: (.int .u8 0) :: (.int .u8 0) :: (.int .u8 1) :: rep 32 (.int .u8 0) ((.int .u64 7) :: [])) 0
def ob_2 : AObj := .cells ((.int .u8 0) :: (.int .u8 0) :: (.int .u8 0) :: (.int .u8 2) :: rep 32 (.int .u8 0) ((.int .u64 1) :: [])) 0
def ob_3 : AObj := .cells ((.int .u8 0) :: (.int .u8 0) :: (.int .u8 0) :: (.int .u8 1) :: rep 32 (.int .u8 0) ((.int .u64 5) :: [])) 0
def va_4 : Value := .agg ⟨(.int .u8 0) :: (.int .u8 0) :: (.int .u8 0) :: (.int .u8 1) :: rep 32 (.int .u8 0) ((.int .u64 7) :: [])⟩
def va_5 : Value := .agg ⟨(.int .u8 0) :: (.int .u8 0) :: (.int .u8 0) :: (.int .u8 1) :: rep 32 (.int .u8 0) ((.int .u64 5) :: [])⟩
def ob_6 : AObj := .cells ((.int .u8 1) :: (.int .u8 2) :: (.int .u8 0) :: (.int .u8 0) :: (.int .u8 0) :: (.int .u8 1) :: rep 39 (.int .u8 0) ((.int .u8 5) :: (.int .u8 0) :: (.int .u8 0) :: (.int .u8 0) :: (.int .u8 1) :: rep 39 (.int .u8 0) ((.int .u8 7) :: []))) 1
def ob_7 : AObj := .cells ((.int .u8 1) :: (.int .u8 2) :: (.int .u8 0) :: (.int .u8 0) :: (.int .u8 0) :: (.int .u8 1) :: rep 39 (.int .u8 0) ((.int .u8 7) :: (.int .u8 0) :: (.int .u8 0) :: (.int .u8 0) :: (.int .u8 1) :: rep 39 (.int .u8 0) ((.int .u8 5) :: []))) 1
def ob_8 : AObj := .cells ((.int .u8 0) :: (.int .u8 0) :: (.int .u8 0) :: (.int .u8 1) :: rep 32 (.int .u8 0) ((.int .u64 5) :: (.int .u8 0) :: (.int .u8 0) :: (.int .u8 0) :: (.int .u8 1) :: rep 32 (.int .u8 0) ((.int .u64 7) :: []))) 37
def ob_9 : AObj := .cells ((.int .u8 0) :: (.int .u8 0) :: (.int .u8 0) :: (.int .u8 1) :: rep 32 (.int .u8 0) ((.int .u64 5) :: (.int .u8 0) :: (.int .u8 0) :: (.int .u8 0) :: (.int .u8 1) :: rep 32 (.int .u8 0) ((.int .u64 7) :: []))) 0
def ob_10 : AObj := .cells ((.int .u8 0) :: (.int .u8 0) :: (.int .u8 0) :: (.int .u8 1) :: []) 4
def ob_11 : AObj := .cells ((.int .u8 0) :: (.int .u8 0) :: (.int .u8 0) :: (.int .u8 1) :: []) 0
def tr_1 : Tr := .node .dead .nil .nil
def tr_2 : Tr := .node .dead tr_1 .nil
def tr_3 : Tr := .node ob_2 (.node (.map [] 0) tr_1 .nil) tr_2
def tr_4 : Tr := .node .dead (.node (.cells [(.int .u8 0)] 1) .nil .nil) .nil
def tr_5 : Tr := .node ob_3 (.node ob_1 (.node (.cells [(.int .i64 2), (.map (some 7))] 0) tr_1 .nil) tr_4) (.node ob_2 tr_2 tr_1)
def tr_6 : Tr := .node .dead (.node (.cells [(.int .u8 0)] 0) .nil .nil) .nil
def tr_7 : Tr := .node ob_3 tr_2 tr_6
def tr_8 : Tr := .node ob_1 (.node (.cells [(.int .i64 2), (.map (some 7))] 0) tr_1 tr_1) tr_4
def tr_9 : Tr := .node .dead (.node ob_1 (.node ob_2 (.node (.map [⟨va_4, (.agg ⟨[]⟩), 0⟩] 1) tr_1 tr_1) tr_2) tr_7) (.node ob_3 tr_8 (.node ob_2 tr_2 tr_2))
def tr_10 : Tr := .node .dead tr_1 tr_1
def tr_11 : Tr := .node .dead (.node ob_1 (.node ob_2 (.node (.map [⟨va_4, (.agg ⟨[]⟩), 0⟩, ⟨va_5, (.agg ⟨[]⟩), 1⟩] 2) tr_1 tr_1) tr_10) (.node ob_3 tr_10 tr_6)) (.node ob_3 tr_8 (.node ob_2 tr_10 tr_2))
def tr_12 : Tr := .node .dead tr_2 tr_2
def tr_13 : Tr := .node .dead tr_2 tr_1
def tr_14 : Tr := .node (.map [⟨va_4, (.agg ⟨[]⟩), 0⟩, ⟨va_5, (.agg ⟨[]⟩), 1⟩] 2) tr_12 tr_13
def tr_15 : Tr := .node .dead tr_13 tr_13
def tr_16 : Tr := .node .dead (.node (.cells [(.int .u8 0)] 0) tr_2 tr_1) tr_13
def tr_17 : Tr := .node ob_6 .nil .nil
def tr_18 : Tr := .node .dead tr_17 .nil
def tr_19 : Tr := .node (.cells [(.int .i64 2), (.map (some 7))] 0) (.node .dead tr_2 tr_18) tr_13
def tr_20 : Tr := .node .dead tr_12 tr_13
def tr_21 : Tr := .node (.cells [] 0) .nil .nil
def tr_22 : Tr := .node .dead tr_21 .nil
def tr_23 : Tr := .node ob_7 .nil .nil
def tr_24 : Tr := .node .dead tr_23 .nil
def tr_25 : Tr := .node .dead tr_10 tr_2
def tr_26 : Tr := .node .dead tr_25 tr_25
def tr_27 : Tr := .node ob_2 (.node (.map [⟨va_4, (.agg ⟨[]⟩), 0⟩, ⟨va_5, (.agg ⟨[]⟩), 1⟩] 2) tr_25 tr_25) tr_26
def tr_28 : Tr := .node .dead (.node .dead tr_10 tr_22) tr_25
def tr_29 : Tr := .node (.cells [(.int .u8 0)] 0) tr_10 tr_2
def tr_30 : Tr := .node ob_3 (.node ob_1 (.node (.cells [(.int .i64 2), (.map (some 7))] 0) (.node .dead tr_10 tr_18) tr_25) (.node .dead (.node (.cells [(.int .u8 0)] 1) tr_10 tr_24) tr_25)) (.node ob_2 tr_26 (.node .dead tr_25 tr_12))
def tr_31 : Tr := .node .dead (.node ob_1 tr_27 (.node ob_3 tr_28 (.node .dead tr_29 tr_12))) tr_30
def tr_32 : Tr := .node .dead tr_13 tr_10
def tr_33 : Tr := .node .dead tr_10 tr_10
def tr_34 : Tr := .node (.map [⟨va_4, (.agg ⟨[]⟩), 0⟩, ⟨va_5, (.agg ⟨[]⟩), 1⟩] 2) tr_32 tr_33
def tr_35 : Tr := .node .dead tr_33 tr_33
def tr_36 : Tr := .node .dead (.node .dead tr_13 (.node .dead tr_21 tr_1)) tr_33
def tr_37 : Tr := .node (.cells [(.int .u8 0)] 0) tr_10 tr_10
def tr_38 : Tr := .node ob_3 tr_36 (.node .dead tr_37 tr_33)
def tr_39 : Tr := .node (.cells [(.int .i64 2), (.map (some 7))] 0) (.node .dead tr_13 (.node .dead tr_17 tr_1)) tr_33
def tr_40 : Tr := .node .dead tr_23 tr_1
def tr_41 : Tr := .node ob_1 tr_39 (.node .dead (.node (.cells [(.int .u8 0)] 1) tr_10 tr_40) tr_33)
def tr_42 : Tr := .node ob_8 .nil .nil
def tr_43 : Tr := .node .dead tr_42 .nil
def tr_44 : Tr := .node .dead tr_43 tr_1
def tr_45 : Tr := .node .dead (.node .dead tr_44 tr_10) tr_33
def tr_46 : Tr := .node ob_2 tr_45 tr_35
def tr_47 : Tr := .node ob_3 tr_41 tr_46
def tr_48 : Tr := .node ob_9 .nil .nil
def tr_49 : Tr := .node .dead tr_48 .nil
def tr_50 : Tr := .node .dead tr_49 tr_1
def tr_51 : Tr := .node ob_1 (.node ob_2 tr_34 (.node .dead (.node .dead tr_50 tr_10) tr_33)) tr_38
def tr_52 : Tr := .node (.map [⟨va_4, (.agg ⟨[]⟩), 0⟩, ⟨va_5, (.agg ⟨[]⟩), 1⟩] 2) tr_20 tr_15
def tr_53 : Tr := .node ob_2 tr_52 (.node .dead (.node .dead tr_50 tr_13) tr_15)
def tr_54 : Tr := .node (.cells [] 0) tr_1 .nil
def tr_55 : Tr := .node .dead tr_54 tr_1
def tr_56 : Tr := .node .dead (.node .dead tr_13 tr_55) tr_15
def tr_57 : Tr := .node (.cells [(.int .u8 0)] 0) tr_13 tr_13
def tr_58 : Tr := .node ob_10 .nil .nil
def tr_59 : Tr := .node .dead (.node .dead tr_58 .nil) tr_1
def tr_60 : Tr := .node .dead tr_13 tr_59
def tr_61 : Tr := .node .dead tr_57 tr_60
def tr_62 : Tr := .node ob_6 tr_1 .nil
def tr_63 : Tr := .node .dead tr_62 tr_1
def tr_64 : Tr := .node ob_7 tr_1 .nil
def tr_65 : Tr := .node .dead tr_64 tr_1
def tr_66 : Tr := .node .dead (.node (.cells [(.int .u8 0)] 1) tr_13 tr_65) tr_15
def tr_67 : Tr := .node ob_1 (.node (.cells [(.int .i64 2), (.map (some 7))] 0) (.node .dead tr_13 tr_63) tr_15) tr_66
def tr_68 : Tr := .node .dead (.node .dead tr_44 tr_13) tr_15
def tr_69 : Tr := .node .dead tr_15 tr_15
def tr_70 : Tr := .node ob_2 tr_68 tr_69
def tr_71 : Tr := .node (.cells [(.int .u8 1), (.int .u8 2)] 0) .nil .nil
def tr_72 : Tr := .node .dead tr_2 (.node .dead tr_71 .nil)
def tr_73 : Tr := .node .dead (.node .dead tr_72 tr_55) tr_15
def tr_74 : Tr := .node ob_11 .nil .nil
def tr_75 : Tr := .node .dead tr_74 .nil
def tr_76 : Tr := .node .dead tr_2 tr_75
def tr_77 : Tr := .node ob_1 (.node (.cells [(.int .i64 2), (.map (some 7))] 0) (.node .dead tr_76 tr_63) tr_15) tr_66
def tr_78 : Tr := .node .dead tr_12 tr_12
def tr_79 : Tr := .node (.map [⟨va_4, (.agg ⟨[]⟩), 0⟩, ⟨va_5, (.agg ⟨[]⟩), 1⟩] 2) tr_78 tr_78
def tr_80 : Tr := .node ob_2 tr_79 (.node .dead (.node .dead (.node .dead tr_49 tr_2) tr_12) tr_20)
def tr_81 : Tr := .node .dead (.node .dead tr_72 (.node .dead tr_54 tr_2)) tr_20
def tr_82 : Tr := .node (.cells [(.int .u8 0)] 0) tr_12 tr_12
def tr_83 : Tr := .node .dead tr_12 tr_59
def tr_84 : Tr := .node ob_1 tr_80 (.node ob_3 tr_81 (.node .dead tr_82 tr_83))
def tr_85 : Tr := .node .dead tr_62 tr_2
def tr_86 : Tr := .node .dead tr_76 tr_85
def tr_87 : Tr := .node .dead tr_64 tr_2
def tr_88 : Tr := .node .dead (.node (.cells [(.int .u8 0)] 1) tr_12 tr_87) tr_20
def tr_89 : Tr := .node ob_1 (.node (.cells [(.int .i64 2), (.map (some 7))] 0) tr_86 tr_20) tr_88
def tr_90 : Tr := .node .dead (.node .dead (.node .dead tr_43 tr_2) tr_12) tr_20
def tr_91 : Tr := .node .dead tr_78 tr_20
def tr_92 : Tr := .node ob_2 tr_90 tr_91
def tr_93 : Tr := .node .dead (.node (.cells [(.int .i64 6), (.int .i64 2)] 0) .nil .nil) .nil
def tr_94 : Tr := .node .dead tr_12 (.node .dead tr_2 tr_93)
def tr_95 : Tr := .node ob_1 (.node (.cells [(.int .i64 2), (.map (some 7))] 0) tr_86 tr_94) tr_88
def tr_96 : Tr := .node .dead tr_33 tr_25
def tr_97 : Tr := .node (.map [⟨va_4, (.agg ⟨[]⟩), 0⟩, ⟨va_5, (.agg ⟨[]⟩), 1⟩] 2) tr_96 tr_26
def tr_98 : Tr := .node ob_2 tr_97 (.node .dead (.node .dead (.node .dead (.node .dead tr_48 tr_1) tr_10) tr_25) tr_26)
def tr_99 : Tr := .node .dead (.node .dead (.node .dead tr_10 (.node .dead tr_71 tr_1)) (.node .dead (.node (.cells [] 0) tr_1 tr_1) tr_2)) tr_26
def tr_100 : Tr := .node (.cells [(.int .u8 0)] 0) tr_25 tr_25
def tr_101 : Tr := .node .dead (.node .dead tr_58 tr_1) tr_2
def tr_102 : Tr := .node .dead tr_25 tr_101
def tr_103 : Tr := .node .dead tr_74 tr_1
def tr_104 : Tr := .node .dead (.node ob_6 tr_1 tr_1) tr_2
def tr_105 : Tr := .node .dead tr_25 (.node .dead tr_10 tr_93)
def tr_106 : Tr := .node .dead (.node ob_7 tr_1 tr_1) tr_2
def tr_107 : Tr := .node ob_1 (.node (.cells [(.int .i64 2), (.map (some 7))] 0) (.node .dead (.node .dead tr_10 tr_103) tr_104) tr_105) (.node .dead (.node (.cells [(.int .u8 0)] 1) tr_33 tr_106) tr_26)
def tr_108 : Tr := .node .dead (.node .dead (.node .dead (.node .dead tr_42 tr_1) tr_10) tr_25) tr_26
def tr_109 : Tr := .node .dead tr_26 tr_26
def tr_110 : Tr := .node .dead tr_75 tr_1
def tr_111 : Tr := .node ob_1 tr_39 (.node .dead (.node (.cells [(.int .u8 0)] 1) tr_110 tr_40) tr_33)
def tr_112 : Tr := .node .dead tr_57 tr_15
def tr_113 : Tr := .node ob_1 (.node (.cells [(.int .i64 2), (.map (some 7))] 0) (.node .dead tr_12 tr_63) tr_15) (.node .dead (.node (.cells [(.int .u8 0)] 1) tr_110 tr_65) tr_15)
def tr_114 : Tr := .node .dead tr_15 tr_60
def tr_115 : Tr := .node ob_3 tr_113 (.node ob_2 tr_68 tr_114)
def tr_116 : Tr := .node ob_1 tr_80 (.node ob_3 tr_81 (.node .dead tr_82 tr_20))
def tr_117 : Tr := .node .dead tr_12 tr_85
def tr_118 : Tr := .node .dead (.node (.cells [(.int .u8 0)] 1) (.node .dead tr_75 tr_2) tr_87) tr_20
def tr_119 : Tr := .node ob_1 (.node (.cells [(.int .i64 2), (.map (some 7))] 0) tr_117 tr_20) tr_118
def tr_120 : Tr := .node .dead tr_78 tr_83
def tr_121 : Tr := .node ob_2 tr_90 tr_120
def tr_122 : Tr := .node ob_1 (.node (.cells [(.int .i64 2), (.map (some 7))] 0) tr_117 tr_94) tr_118
def tr_123 : Tr := .node ob_1 (.node (.cells [(.int .i64 2), (.map (some 7))] 0) (.node .dead tr_33 tr_104) tr_105) (.node .dead (.node (.cells [(.int .u8 0)] 1) (.node .dead tr_103 tr_10) tr_106) tr_26)
def tr_124 : Tr := .node .dead tr_26 tr_102
def tr_125 : Tr := .node .dead tr_1 tr_48
def tr_126 : Tr := .node ob_1 (.node ob_2 tr_34 tr_45) (.node ob_3 tr_36 (.node .dead tr_37 (.node .dead tr_125 tr_10)))
def tr_127 : Tr := .node ob_2 (.node .dead tr_32 tr_33) tr_35
def tr_128 : Tr := .node .dead tr_126 (.node ob_3 tr_41 tr_127)
def tr_129 : Tr := .node ob_2 tr_52 tr_68
def tr_130 : Tr := .node .dead tr_2 tr_48
def tr_131 : Tr := .node .dead tr_57 (.node .dead tr_130 tr_59)
def tr_132 : Tr := .node ob_2 tr_69 tr_69
def tr_133 : Tr := .node ob_2 tr_79 tr_90
def tr_134 : Tr := .node ob_9 tr_1 .nil
def tr_135 : Tr := .node .dead tr_2 tr_134
def tr_136 : Tr := .node ob_1 tr_133 (.node ob_3 tr_81 (.node .dead tr_82 (.node .dead tr_135 tr_59)))
def tr_137 : Tr := .node ob_2 tr_91 tr_91
def tr_138 : Tr := .node ob_2 tr_97 tr_108
def tr_139 : Tr := .node .dead tr_10 tr_134
def tr_140 : Tr := .node .dead tr_96 tr_26
def tr_141 : Tr := .node .dead tr_57 (.node .dead tr_130 tr_13)
def tr_142 : Tr := .node ob_3 tr_113 (.node ob_2 tr_69 tr_114)
def tr_143 : Tr := .node ob_1 tr_133 (.node ob_3 tr_81 (.node .dead tr_82 (.node .dead tr_135 tr_13)))
def tr_144 : Tr := .node ob_2 tr_91 tr_120
end Go.Proofs.Ytagmnpeilgnbdaa.R

namespace Go.Proofs.Ytagmnpeilgnbdaa.R
open Go Go.Vm
set_option maxRecDepth 100000
def ma_1 : List Value := [(.pointer (some ⟨8, 0, none⟩))]
def mh_1 : Heap := ⟨9, (.node .dead (.node ob_1 (.node ob_2 (.node (.map [] 0) .nil .nil) .nil) (.node ob_3 .nil .nil)) (.node ob_3 (.node ob_1 (.node (.cells [(.int .i64 2), (.map (some 7))] 0) .nil .nil) .nil) (.node ob_2 .nil .nil)))⟩
def mo_1 : List CO := [(.ret (.tuple ⟨[(.slice (some ⟨20, 0, (some 0)⟩) 1 1), (.int .i64 0)]⟩) ⟨21, (.node .dead (.node ob_1 tr_3 (.node ob_3 tr_2 tr_1)) tr_5)⟩)]
theorem me_1 : fewOK (xcall Try.prog table.get 1000 60 (.fn 14) ma_1 mh_1) mo_1 = true := by kernel_rfl
def ma_2 : List Value := [(.pointer (some ⟨8, 0, none⟩)), va_4]
def mh_2 : Heap := ⟨22, (.node .dead (.node ob_1 tr_3 tr_7) tr_5)⟩
def mo_2 : List CO := [(.ret (.int .i64 0) ⟨25, tr_9⟩)]
theorem me_2 : fewOK (xcall Try.prog table.get 1000 60 (.fn 11) ma_2 mh_2) mo_2 = true := by kernel_rfl
def ma_3 : List Value := [(.pointer (some ⟨8, 0, none⟩)), va_5]
def mh_3 : Heap := ⟨25, tr_9⟩
def mo_3 : List CO := [(.ret (.int .i64 0) ⟨28, tr_11⟩)]
theorem me_3 : fewOK (xcall Try.prog table.get 1000 60 (.fn 11) ma_3 mh_3) mo_3 = true := by kernel_rfl
def ma_4 : List Value := [(.pointer (some ⟨8, 0, none⟩))]
def mh_4 : Heap := ⟨28, tr_11⟩
def mo_4 : List CO := [(.ret (.tuple ⟨[(.slice (some ⟨80, 0, (some 0)⟩) 90 90), (.int .i64 0)]⟩) ⟨81, (.node .dead (.node ob_1 (.node ob_2 tr_14 tr_15) (.node ob_3 tr_15 tr_16)) (.node ob_3 (.node ob_1 tr_19 (.node .dead (.node (.cells [(.int .u8 0)] 1) tr_2 tr_1) tr_13)) (.node ob_2 tr_15 tr_15)))⟩)]
theorem me_4 : fewOK (xcall Try.prog table.get 1000 60 (.fn 14) ma_4 mh_4) mo_4 = true := by kernel_rfl
end Go.Proofs.Ytagmnpeilgnbdaa.R

namespace Go.Proofs.Ytagmnpeilgnbdaa.R
open Go Go.Vm
set_option maxRecDepth 100000
def ma_5 : List Value := []
def mh_5 : Heap := ⟨85, (.node .dead (.node ob_1 (.node ob_2 tr_14 tr_20) (.node ob_3 (.node .dead (.node .dead tr_2 tr_22) tr_13) tr_16)) (.node ob_3 (.node ob_1 tr_19 (.node .dead (.node (.cells [(.int .u8 0)] 1) tr_2 tr_24) tr_13)) (.node ob_2 tr_20 tr_15)))⟩
def mo_5 : List CO := [(.ret (.bool true) ⟨109, tr_31⟩)]
theorem me_5 : fewOK (xcall Try.prog table.get 1000 60 (.fn 8) ma_5 mh_5) mo_5 = true := by kernel_rfl
def ma_6 : List Value := [(.pointer (some ⟨8, 0, none⟩))]
def mh_6 : Heap := ⟨109, tr_31⟩
def mo_6 : List CO := [(.ret (.slice (some ⟨130, 0, (some 0)⟩) 2 2) ⟨131, (.node .dead (.node ob_1 (.node ob_2 tr_34 tr_35) tr_38) tr_47)⟩)]
theorem me_6 : fewOK (xcall Try.prog table.get 1000 60 (.fn 18) ma_6 mh_6) mo_6 = true := by kernel_rfl
def ma_7 : List Value := [(.pointer (some ⟨8, 0, none⟩)), (.agg ⟨z32⟩)]
def mh_7 : Heap := ⟨132, (.node .dead tr_51 tr_47)⟩
def mo_7 : List CO := [(.ret (.slice (some ⟨157, 0, (some 0)⟩) 1 1) ⟨160, (.node .dead (.node ob_1 tr_53 (.node ob_3 tr_56 tr_61)) (.node ob_3 tr_67 tr_70))⟩)]
theorem me_7 : fewOK (xcall Try.prog table.get 1000 60 (.fn 16) ma_7 mh_7) mo_7 = true := by kernel_rfl
def ma_8 : List Value := [(.slice (some ⟨161, 0, none⟩) 2 2)]
def mh_8 : Heap := ⟨162, (.node .dead (.node ob_1 tr_53 (.node ob_3 tr_73 tr_61)) (.node ob_3 tr_77 tr_70))⟩
def mo_8 : List CO := [(.ret (.tuple ⟨[(.pointer none), (.agg ⟨[(.int .i64 6), (.int .i64 2)]⟩)]⟩) ⟨184, (.node .dead tr_84 (.node ob_3 tr_89 tr_92))⟩)]
theorem me_8 : fewOK (xcall Try.prog table.get 1000 60 (.fn 25) ma_8 mh_8) mo_8 = true := by kernel_rfl
end Go.Proofs.Ytagmnpeilgnbdaa.R

namespace Go.Proofs.Ytagmnpeilgnbdaa.R
open Go Go.Vm
set_option maxRecDepth 100000
def ma_9 : List Value := [(.slice (some ⟨84, 0, (some 0)⟩) 90 90)]
def mh_9 : Heap := ⟨185, (.node .dead tr_84 (.node ob_3 tr_95 tr_92))⟩
def mo_9 : List CO := [(.ret (.tuple ⟨[(.pointer none), (.agg ⟨[(.int .i64 9), (.int .i64 46)]⟩)]⟩) ⟨229, (.node .dead (.node ob_1 tr_98 (.node ob_3 tr_99 (.node .dead tr_100 tr_102))) (.node ob_3 tr_107 (.node ob_2 tr_108 tr_109)))⟩)]
theorem me_9 : fewOK (xcall Try.prog table.get 1000 60 (.fn 25) ma_9 mh_9) mo_9 = true := by kernel_rfl
def ma_10 : List Value := [(.pointer (some ⟨8, 0, none⟩)), (.agg ⟨z32⟩)]
def mh_10 : Heap := ⟨133, (.node .dead tr_51 (.node ob_3 tr_111 tr_46))⟩
def mo_10 : List CO := [(.ret (.slice (some ⟨158, 0, (some 0)⟩) 1 1) ⟨161, (.node .dead (.node ob_1 tr_53 (.node ob_3 tr_56 tr_112)) tr_115)⟩)]
theorem me_10 : fewOK (xcall Try.prog table.get 1000 60 (.fn 16) ma_10 mh_10) mo_10 = true := by kernel_rfl
def ma_11 : List Value := [(.slice (some ⟨161, 0, none⟩) 2 2)]
def mh_11 : Heap := ⟨162, (.node .dead (.node ob_1 tr_53 (.node ob_3 tr_73 tr_112)) tr_115)⟩
def mo_11 : List CO := [(.ret (.tuple ⟨[(.pointer none), (.agg ⟨[(.int .i64 6), (.int .i64 2)]⟩)]⟩) ⟨184, (.node .dead tr_116 (.node ob_3 tr_119 tr_121))⟩)]
theorem me_11 : fewOK (xcall Try.prog table.get 1000 60 (.fn 25) ma_11 mh_11) mo_11 = true := by kernel_rfl
def ma_12 : List Value := [(.slice (some ⟨84, 0, (some 0)⟩) 90 90)]
def mh_12 : Heap := ⟨185, (.node .dead tr_116 (.node ob_3 tr_122 tr_121))⟩
def mo_12 : List CO := [(.ret (.tuple ⟨[(.pointer none), (.agg ⟨[(.int .i64 9), (.int .i64 46)]⟩)]⟩) ⟨229, (.node .dead (.node ob_1 tr_98 (.node ob_3 tr_99 (.node .dead tr_100 tr_26))) (.node ob_3 tr_123 (.node ob_2 tr_108 tr_124)))⟩)]
theorem me_12 : fewOK (xcall Try.prog table.get 1000 60 (.fn 25) ma_12 mh_12) mo_12 = true := by kernel_rfl
end Go.Proofs.Ytagmnpeilgnbdaa.R

namespace Go.Proofs.Ytagmnpeilgnbdaa.R
open Go Go.Vm
set_option maxRecDepth 100000
def ma_13 : List Value := [(.pointer (some ⟨8, 0, none⟩))]
def mh_13 : Heap := ⟨110, (.node .dead (.node ob_1 tr_27 (.node ob_3 tr_28 (.node .dead tr_29 (.node .dead tr_125 tr_2)))) tr_30)⟩
def mo_13 : List CO := [(.ret (.slice (some ⟨131, 0, (some 0)⟩) 2 2) ⟨132, tr_128⟩)]
theorem me_13 : fewOK (xcall Try.prog table.get 1000 60 (.fn 18) ma_13 mh_13) mo_13 = true := by kernel_rfl
def ma_14 : List Value := [(.pointer (some ⟨8, 0, none⟩)), (.agg ⟨z32⟩)]
def mh_14 : Heap := ⟨132, tr_128⟩
def mo_14 : List CO := [(.ret (.slice (some ⟨157, 0, (some 0)⟩) 1 1) ⟨160, (.node .dead (.node ob_1 tr_129 (.node ob_3 tr_56 tr_131)) (.node ob_3 tr_67 tr_132))⟩)]
theorem me_14 : fewOK (xcall Try.prog table.get 1000 60 (.fn 16) ma_14 mh_14) mo_14 = true := by kernel_rfl
def ma_15 : List Value := [(.slice (some ⟨161, 0, none⟩) 2 2)]
def mh_15 : Heap := ⟨162, (.node .dead (.node ob_1 tr_129 (.node ob_3 tr_73 tr_131)) (.node ob_3 tr_77 tr_132))⟩
def mo_15 : List CO := [(.ret (.tuple ⟨[(.pointer none), (.agg ⟨[(.int .i64 6), (.int .i64 2)]⟩)]⟩) ⟨184, (.node .dead tr_136 (.node ob_3 tr_89 tr_137))⟩)]
theorem me_15 : fewOK (xcall Try.prog table.get 1000 60 (.fn 25) ma_15 mh_15) mo_15 = true := by kernel_rfl
def ma_16 : List Value := [(.slice (some ⟨84, 0, (some 0)⟩) 90 90)]
def mh_16 : Heap := ⟨185, (.node .dead tr_136 (.node ob_3 tr_95 tr_137))⟩
def mo_16 : List CO := [(.ret (.tuple ⟨[(.pointer none), (.agg ⟨[(.int .i64 9), (.int .i64 46)]⟩)]⟩) ⟨229, (.node .dead (.node ob_1 tr_138 (.node ob_3 tr_99 (.node .dead tr_100 (.node .dead tr_139 tr_101)))) (.node ob_3 tr_107 (.node ob_2 tr_140 tr_109)))⟩)]
theorem me_16 : fewOK (xcall Try.prog table.get 1000 60 (.fn 25) ma_16 mh_16) mo_16 = true := by kernel_rfl
end Go.Proofs.Ytagmnpeilgnbdaa.R

namespace Go.Proofs.Ytagmnpeilgnbdaa.R
open Go Go.Vm
set_option maxRecDepth 100000
def ma_17 : List Value := [(.pointer (some ⟨8, 0, none⟩)), (.agg ⟨z32⟩)]
def mh_17 : Heap := ⟨133, (.node .dead tr_126 (.node ob_3 tr_111 tr_127))⟩
def mo_17 : List CO := [(.ret (.slice (some ⟨158, 0, (some 0)⟩) 1 1) ⟨161, (.node .dead (.node ob_1 tr_129 (.node ob_3 tr_56 tr_141)) tr_142)⟩)]
theorem me_17 : fewOK (xcall Try.prog table.get 1000 60 (.fn 16) ma_17 mh_17) mo_17 = true := by kernel_rfl
def ma_18 : List Value := [(.slice (some ⟨161, 0, none⟩) 2 2)]
def mh_18 : Heap := ⟨162, (.node .dead (.node ob_1 tr_129 (.node ob_3 tr_73 tr_141)) tr_142)⟩
def mo_18 : List CO := [(.ret (.tuple ⟨[(.pointer none), (.agg ⟨[(.int .i64 6), (.int .i64 2)]⟩)]⟩) ⟨184, (.node .dead tr_143 (.node ob_3 tr_119 tr_144))⟩)]
theorem me_18 : fewOK (xcall Try.prog table.get 1000 60 (.fn 25) ma_18 mh_18) mo_18 = true := by kernel_rfl
def ma_19 : List Value := [(.slice (some ⟨84, 0, (some 0)⟩) 90 90)]
def mh_19 : Heap := ⟨185, (.node .dead tr_143 (.node ob_3 tr_122 tr_144))⟩
def mo_19 : List CO := [(.ret (.tuple ⟨[(.pointer none), (.agg ⟨[(.int .i64 9), (.int .i64 46)]⟩)]⟩) ⟨229, (.node .dead (.node ob_1 tr_138 (.node ob_3 tr_99 (.node .dead tr_100 (.node .dead tr_139 tr_25)))) (.node ob_3 tr_123 (.node ob_2 tr_140 tr_124)))⟩)]
theorem me_19 : fewOK (xcall Try.prog table.get 1000 60 (.fn 25) ma_19 mh_19) mo_19 = true := by kernel_rfl
end Go.Proofs.Ytagmnpeilgnbdaa.R

namespace Go.Proofs.Ytagmnpeilgnbdaa.R
open Go Go.Vm
set_option maxRecDepth 100000
def memo_8 : Memo := [(ma_5, mh_5, mo_5)]
theorem memo_8_ok : MemoF Try.prog 8 memo_8 := MemoF.cons (TT.table_ok table_all) me_5 (MemoF.nil)
def memo_11 : Memo := [(ma_2, mh_2, mo_2), (ma_3, mh_3, mo_3)]
theorem memo_11_ok : MemoF Try.prog 11 memo_11 := MemoF.cons (TT.table_ok table_all) me_2 (MemoF.cons (TT.table_ok table_all) me_3 (MemoF.nil))
def memo_14 : Memo := [(ma_1, mh_1, mo_1), (ma_4, mh_4, mo_4)]
theorem memo_14_ok : MemoF Try.prog 14 memo_14 := MemoF.cons (TT.table_ok table_all) me_1 (MemoF.cons (TT.table_ok table_all) me_4 (MemoF.nil))
def memo_16 : Memo := [(ma_7, mh_7, mo_7), (ma_10, mh_10, mo_10), (ma_14, mh_14, mo_14), (ma_17, mh_17, mo_17)]
theorem memo_16_ok : MemoF Try.prog 16 memo_16 := MemoF.cons (TT.table_ok table_all) me_7 (MemoF.cons (TT.table_ok table_all) me_10 (MemoF.cons (TT.table_ok table_all) me_14 (MemoF.cons (TT.table_ok table_all) me_17 (MemoF.nil))))
def memo_18 : Memo := [(ma_6, mh_6, mo_6), (ma_13, mh_13, mo_13)]
theorem memo_18_ok : MemoF Try.prog 18 memo_18 := MemoF.cons (TT.table_ok table_all) me_6 (MemoF.cons (TT.table_ok table_all) me_13 (MemoF.nil))
def memo_25 : Memo := [(ma_8, mh_8, mo_8), (ma_9, mh_9, mo_9), (ma_11, mh_11, mo_11), (ma_12, mh_12, mo_12), (ma_15, mh_15, mo_15), (ma_16, mh_16, mo_16), (ma_18, mh_18, mo_18), (ma_19, mh_19, mo_19)]
theorem memo_25_ok : MemoF Try.prog 25 memo_25 := MemoF.cons (TT.table_ok table_all) me_8 (MemoF.cons (TT.table_ok table_all) me_9 (MemoF.cons (TT.table_ok table_all) me_11 (MemoF.cons (TT.table_ok table_all) me_12 (MemoF.cons (TT.table_ok table_all) me_15 (MemoF.cons (TT.table_ok table_all) me_16 (MemoF.cons (TT.table_ok table_all) me_18 (MemoF.cons (TT.table_ok table_all) me_19 (MemoF.nil))))))))
def tab : Table := (withMemo (withMemo (withMemo (withMemo (withMemo (withMemo table.get 8 memo_8) 11 memo_11) 14 memo_14) 16 memo_16) 18 memo_18) 25 memo_25)
theorem tab_ok : TableOK Try.prog tab := (withMemoF_ok (Checked.mixed Try.checked) (withMemoF_ok (Checked.mixed Try.checked) (withMemoF_ok (Checked.mixed Try.checked) (withMemoF_ok (Checked.mixed Try.checked) (withMemoF_ok (Checked.mixed Try.checked) (withMemoF_ok (Checked.mixed Try.checked) (TT.table_ok table_all) memo_8_ok) memo_11_ok) memo_14_ok) memo_16_ok) memo_18_ok) memo_25_ok)
end Go.Proofs.Ytagmnpeilgnbdaa.R

namespace Go.Proofs.Ytagmnpeilgnbdaa.A
open Go Go.Vm
set_option maxRecDepth 100000
theorem ran_5 : allTrue (xcall Try.prog R.tab 1000 60 (.fn 5) [] Heap.init) = true := by kernel_rfl
theorem has_5 : (tableOf Try.prog 5).isSome = true := by kernel_rfl
theorem ran_8 : allTrue (xcall Try.prog (tableOf Try.prog) 1000 60 (.fn 8) [] Heap.init) = true := by kernel_rfl
theorem has_8 : (tableOf Try.prog 8).isSome = true := by kernel_rfl
theorem known : KnownAll Try.prog prims := ⟨⟨Option.isSome_iff_exists.1 has_5, fun w => known_calls (Checked.mixed Try.checked) R.tab_ok ran_5 w⟩, ⟨⟨Option.isSome_iff_exists.1 has_8, fun w => known_calls (Checked.mixed Try.checked) tableOf_ok ran_8 w⟩, trivial⟩⟩
theorem T0_ok : TableOK Try.prog T0 := withKept_ok (withTrue_ok known) fun k hk => by simp at hk
end Go.Proofs.Ytagmnpeilgnbdaa.A
