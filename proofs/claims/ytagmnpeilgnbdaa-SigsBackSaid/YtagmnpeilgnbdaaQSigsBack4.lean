/- Contracts of functions, over the machine. -/
import Derived.Test.YtagmnpeilgnbdaaQSigsBack3
import Derived.Test.YtagmnpeilgnbdaaVK
import Derived.Test.YtagmnpeilgnbdaaVJ
import Derived.Test.YtagmnpeilgnbdaaVI
set_option linter.unusedSimpArgs false
set_option linter.unusedSectionVars false
noncomputable section
set_option maxRecDepth 100000
set_option linter.unusedVariables false
namespace Go.Proofs.Ytagmnpeilgnbdaa.A
open Go Go.Vm
abbrev fn_zjQ : FuncId := 7
def zjQ_l0 : ACode :=
 (.seq (.seq (.region [
 o1 37 (.mov (tm 8)),
 o1 38 (.mov (tm 0)),
 o1 39 (.lenSl (tm 38)),
 o1 40 (.bin .lss (so (.binOp .lss 3 (tm 37) (tm 39) 3) 4) (tm 37) (tm 39))]) (.cond (tm 40)
 .skip
 (.exit 0))) (.seq (.block 1 (.region [
 o1 43 (.mov (tm 6)),
 o1 44 (.mov (tm 0)),
 o1 45 (.mov (tm 8)),
 o1 46 (.indexSl 37 (tm 44) (tm 45)),
 o1 47 (.load (some 37) (tm 46)),
 o1 48 (.callV (.func 11) [(tm 43), (tm 47)])])) (.region [
 o1 41 (.mov (tm 8)),
 o1 42 (.bin .add (so (.binOp .add 3 (tm 41) (.const (.int .i64 1)) 3) 3) (tm 41) (.const (.int .i64 1))),
 o1 8 (.mov (tm 42))])))
def zjQ_c : ACode :=
 (.seq (.region [
 o1 4 (.mov (.const (.bool false)))]) (.seq (.region [
 o1 17 (.callV (.func 5) []),
 o1 5 (.mov (tm 17))]) (.seq (.seq (.region [
 o1 18 (.mov (tm 0)),
 o1 19 (.lenSl (tm 18)),
 o1 20 (.bin .gtr (so (.binOp .gtr 3 (tm 19) (.const (.int .i64 40)) 3) 4) (tm 19) (.const (.int .i64 40))),
 o1 21 (.mov (tm 20)),
 o5 22 (.mov (tm 1)) 21,
 o5 23 (.lenSl (tm 22)) 21,
 o5 24 (.bin .gtr (so (.binOp .gtr 3 (tm 23) (.const (.int .i64 3000)) 3) 4) (tm 23) (.const (.int .i64 3000))) 21,
 o1 25 (.pick (tm 21) (.const (.bool true)) (tm 24))]) (.cond (tm 25)
 (.seq (.region [
 o1 26 (.mov (tm 5)),
 o1 4 (.mov (tm 26))]) .ret)
 .skip)) (.seq (.region [
 o1 28 (.callV (.func 9) [(.const (.int .i64 4096))]),
 o1 27 (.mov (tm 28)),
 o1 29 (.extract 0 (tm 27)),
 o1 30 (.extract 1 (tm 27)),
 o1 6 (.mov (tm 29)),
 o1 7 (.mov (tm 30))]) (.seq (.seq (.region [
 o1 31 (.mov (tm 7)),
 o1 32 (.bin .neq (so (.binOp .neq 25 (tm 31) k0 25) 4) (tm 31) k0),
 o1 33 (.mov (tm 32)),
 o5 34 (.mov (tm 6)) 33,
 o5 35 (.eq .ptr false (so (.binOp .eql 24 (tm 34) (.const (.pointer none)) 24) 4) (tm 34) (.const (.pointer none))) 33,
 o1 36 (.pick (tm 33) (.const (.bool true)) (tm 35))]) (.cond (tm 36)
 (.seq (.region [
 o1 4 (.mov (.const (.bool false)))]) .ret)
 .skip)) (.seq (.seq (.region [
 o1 8 (.mov k0)]) (.block 0 (.loop zjQ_l0))) (.seq (.region [
 o1 50 (.mov (tm 6)),
 o1 51 (.callV (.func 14) [(tm 50)]),
 o1 49 (.mov (tm 51)),
 o1 52 (.extract 0 (tm 49)),
 o1 53 (.extract 1 (tm 49)),
 o1 9 (.mov (tm 52)),
 o1 10 (.mov (tm 53))]) (.seq (.region [
 o1 55 (.mov (tm 9)),
 o1 56 (.callV (.func 25) [(tm 55)]),
 o1 54 (.mov (tm 56)),
 o1 57 (.extract 0 (tm 54)),
 o1 58 (.extract 1 (tm 54)),
 o1 12 (.alloc 62 [(.int .i64 0), (.int .i64 0)]),
 o1 11 (.mov (tm 57)),
 o3 (.store 2 (tm 12) (tm 58))]) (.seq (.seq (.region [
 o1 59 (.mov (tm 10)),
 o1 60 (.bin .neq (so (.binOp .neq 25 (tm 59) k0 25) 4) (tm 59) k0),
 o1 61 (.mov (tm 60)),
 o5 62 (.load (some 2) (tm 12)) 61,
 o5 63 (.build [(.int .i64 0), (.int .i64 0)] []) 61,
 o5 64 (.bin .neq (so (.binOp .neq 62 (tm 62) (tm 63) 62) 4) (tm 62) (tm 63)) 61,
 o1 65 (.pick (tm 61) (.const (.bool true)) (tm 64)),
 o1 66 (.mov (tm 65)),
 o5 67 (.mov (tm 11)) 66,
 o5 68 (.eq .ptr false (so (.binOp .eql 24 (tm 67) (.const (.pointer none)) 24) 4) (tm 67) (.const (.pointer none))) 66,
 o1 69 (.pick (tm 66) (.const (.bool true)) (tm 68)),
 o1 70 (.mov (tm 69)),
 o5 71 (.mov (tm 6)) 70,
 o5 72 (.callV (.func 18) [(tm 71)]) 70,
 o5 73 (.mov (tm 11)) 70,
 o5 74 (.callV (.func 18) [(tm 73)]) 70,
 o5 75 (.callV (.func 21) [(tm 72), (tm 74)]) 70,
 o5 76 (.raw (so (.unOp .not 4 (tm 75)) 4)) 70,
 o1 77 (.pick (tm 70) (.const (.bool true)) (tm 76))]) (.cond (tm 77)
 (.seq (.region [
 o1 4 (.mov (.const (.bool false)))]) .ret)
 .skip)) (.seq (.region [
 o1 79 (.mov (tm 1)),
 o1 80 (.callV (.func 25) [(tm 79)]),
 o1 78 (.mov (tm 80)),
 o1 81 (.extract 0 (tm 78)),
 o1 82 (.extract 1 (tm 78)),
 o1 14 (.alloc 62 [(.int .i64 0), (.int .i64 0)]),
 o1 13 (.mov (tm 81)),
 o3 (.store 2 (tm 14) (tm 82))]) (.seq (.seq (.region [
 o1 83 (.fieldAddr 0 (tm 14)),
 o1 84 (.load none (tm 83)),
 o1 85 (.bin .neq (so (.binOp .neq 25 (tm 84) k0 25) 4) (tm 84) k0)]) (.cond (tm 85)
 (.seq (.region [
 o1 86 (.mov (tm 5)),
 o1 87 (.mov (tm 86)),
 o4 88 (.mov (tm 13)) 87,
 o4 89 (.eq .ptr false (so (.binOp .eql 24 (tm 88) (.const (.pointer none)) 24) 4) (tm 88) (.const (.pointer none))) 87,
 o1 90 (.pick (tm 87) (tm 89) (.const (.bool false))),
 o1 91 (.mov (tm 90)),
 o4 92 (.fieldAddr 1 (tm 14)) 91,
 o4 93 (.load none (tm 92)) 91,
 o4 94 (.bin .geq (so (.binOp .geq 3 (tm 93) k0 3) 4) (tm 93) k0) 91,
 o1 95 (.pick (tm 91) (tm 94) (.const (.bool false))),
 o1 96 (.mov (tm 95)),
 o4 97 (.fieldAddr 1 (tm 14)) 96,
 o4 98 (.load none (tm 97)) 96,
 o4 99 (.mov (tm 1)) 96,
 o4 100 (.lenSl (tm 99)) 96,
 o4 101 (.bin .leq (so (.binOp .leq 3 (tm 98) (tm 100) 3) 4) (tm 98) (tm 100)) 96,
 o1 102 (.pick (tm 96) (tm 101) (.const (.bool false))),
 o1 4 (.mov (tm 102))]) .ret)
 .skip)) (.seq (.region [
 o1 104 (.mov (tm 13)),
 o1 105 (.callV (.func 14) [(tm 104)]),
 o1 103 (.mov (tm 105)),
 o1 106 (.extract 0 (tm 103)),
 o1 107 (.extract 1 (tm 103)),
 o1 15 (.mov (tm 106)),
 o1 16 (.mov (tm 107))]) (.seq (.region [
 o1 108 (.mov (tm 5)),
 o1 109 (.mov (tm 108)),
 o4 110 (.mov (tm 16)) 109,
 o4 111 (.bin .eql (so (.binOp .eql 25 (tm 110) k0 25) 4) (tm 110) k0) 109,
 o1 112 (.pick (tm 109) (tm 111) (.const (.bool false))),
 o1 113 (.mov (tm 112)),
 o4 114 (.mov (tm 15)) 113,
 o4 115 (.mov (tm 1)) 113,
 o4 116 (.callV (.func 20) [(tm 114), (tm 115)]) 113,
 o1 117 (.pick (tm 113) (tm 116) (.const (.bool false))),
 o1 4 (.mov (tm 117))]) .ret)))))))))))))
def zjQ : AFunc := ⟨118, [(4, none)], zjQ_c, none⟩
theorem zjQ_t0 : tableOf Try.prog 7 = some zjQ := by kernel_rfl
theorem zjQ_t : T0 7 = some zjQ := withKept_t rfl (withTrue_t rfl zjQ_t0)
theorem zjQ_runs {v0 v1 : Value} {h : Heap} {R : RP} {X : XP} (k : RunC Try.prog T0 zjQ_c ⟨[v0, v1, U, U, U, U, U, U, U, U, U, U, U, U, U, U, U, U, U, U, U, U, U, U, U, U, U, U, U, U, U, U, U, U, U, U, U, U, U, U, U, U, U, U, U, U, U, U, U, U, U, U, U, U, U, U, U, U, U, U, U, U, U, U, U, U, U, U, U, U, U, U, U, U, U, U, U, U, U, U, U, U, U, U, U, U, U, U, U, U, U, U, U, U, U, U, U, U, U, U, U, U, U, U, U, U, U, U, U, U, U, U, U, U, U, U, U, U], [], h, none⟩ (bodyQ Try.prog T0 [(4, none)] R X)) :
 Runs Try.prog T0 (.fn 7) [v0, v1] h R X := Runs.fn zjQ_t rfl k
abbrev zjQ_l0_M : List Nat := [0, 0, 0, 0, 0, 0, 0, 0, 2, 0, 0, 0, 0, 0, 0, 0, 0, 0, 0, 0, 0, 0, 0, 0, 0, 0, 0, 0, 0, 0, 0, 0, 0, 0, 0, 0, 0, 1, 1, 1, 1, 1, 1, 1, 1, 1, 1, 1, 1, 0, 0, 0, 0, 0, 0, 0, 0, 0, 0, 0, 0, 0, 0, 0, 0, 0, 0, 0, 0, 0, 0, 0, 0, 0, 0, 0, 0, 0, 0, 0, 0, 0, 0, 0, 0, 0, 0, 0, 0, 0, 0, 0, 0, 0, 0, 0, 0, 0, 0, 0, 0, 0, 0, 0, 0, 0, 0, 0, 0, 0, 0, 0, 0, 0, 0, 0, 0, 0]
end Go.Proofs.Ytagmnpeilgnbdaa.A

namespace Go.Proofs.Ytagmnpeilgnbdaa.A
open Go Go.Vm
set_option maxRecDepth 10000
set_option linter.unusedVariables false
theorem sig_cells {h : Heap} {b o n k : Nat} {l : List Sg} (hc : cellsAt h b o (n * 37) = some (gcells l)) (hn : l.length = n) (hk : k < n) : Cells h b (o + k * 37) 37 (at' l k).cells := ⟨by
  have h1 := (gsub (l := l) (j := []) (i := k) (by omega)).eq
  rw [List.append_nil] at h1
  rw [cellsAt_sub hc (by omega), h1]⟩
theorem add_len {most : Int} {L : List Sg} {s : Sg} : (addG most L s).1.length ≤ L.length + 1 := by
  unfold addG
  split
  · simp
  · split
    · simp
    · rw [insG_len]; omega
end Go.Proofs.Ytagmnpeilgnbdaa.A

namespace Go.Proofs.Ytagmnpeilgnbdaa.A
open Go Go.Vm
set_option maxRecDepth 10000
set_option linter.unusedVariables false
theorem fits_bytes {h : Heap} {m : Nat} {te : TypeId} {c : List Value} {len : Nat} (hu : Try.prog.underlying te = some (.int .u8)) (hs : Try.prog.cellsOf te = 1) (hl : c.length = len * Try.prog.cellsOf te) (hall : ∀ i, i < len → Fits Try.prog h (m + 1) te ((c.drop (i * Try.prog.cellsOf te)).take (Try.prog.cellsOf te))) : ∃ bs : List UInt8, c = bcells bs ∧ bs.length = len := by
  rw [hs, Nat.mul_one] at hl
  induction c generalizing len with
  | nil => exact ⟨[], rfl, by simpa using hl⟩
  | cons v c ih =>
    cases len with
    | zero => simp at hl
    | succ len =>
      have h0 := hall 0 (by omega)
      rw [hs] at h0
      unfold Fits at h0
      rw [hu] at h0
      simp only [Nat.zero_mul, List.drop_zero, List.take_succ_cons, List.take_zero] at h0
      obtain ⟨x, hx, hwf⟩ := h0
      injection hx with hx _
      obtain ⟨bs, rfl, hb⟩ := ih (len := len) (by simpa using hl) fun i hi => by
        have := hall (i + 1) (by omega)
        rw [hs] at this ⊢
        simpa using this
      have hr : 0 ≤ x ∧ x ≤ 255 := by
        simp [Lit.wf, IntKind.min, IntKind.max, IntKind.signed, IntKind.bits] at hwf
        omega
      refine ⟨UInt8.ofNat x.toNat :: bs, ?_, by simp [hb]⟩
      rw [hx]
      show Value.int .u8 x :: bcells bs = Value.int .u8 ((UInt8.ofNat x.toNat).toNat : Nat) :: bcells bs
      rw [u8nat (by omega)]
      congr 2
      omega
theorem fits_slice {h : Heap} {m : Nat} {t te : TypeId} {v : Value} (ht : Try.prog.underlying t = some (.slice te)) (hu : Try.prog.underlying te = some (.int .u8)) (hs : Try.prog.cellsOf te = 1) (hv : FitsV Try.prog h (m + 2) t v) : ∃ bs : List UInt8, Rd h 1 v (bcells bs) bs.length := by
  unfold FitsV at hv
  rw [ht] at hv
  unfold Fits at hv
  rw [ht] at hv
  rcases hv with hv | ⟨b, len, cap, c, hv, hb, hlc, hcap, hro, hl, hall⟩
  · injection hv with hv
    subst hv
    exact ⟨[], Rd.nil⟩
  · injection hv with hv
    subst hv
    obtain ⟨bs, rfl, hbl⟩ := fits_bytes hu hs hl hall
    refine ⟨bs, _, _, by rw [hbl], by simp [bcells], fun hn => ⟨b, 0, none, rfl, hb, ?_⟩⟩
    rw [cellsAt_of (c := bcells bs) (by rw [hro (by omega)]; rfl) (by simp [bcells]), List.drop_zero, List.take_of_length_le (by simp [bcells])]
end Go.Proofs.Ytagmnpeilgnbdaa.A

namespace Go.Proofs.Ytagmnpeilgnbdaa.A
open Go Go.Vm
set_option maxRecDepth 10000
set_option linter.unusedVariables false
theorem fits_flat32 {h : Heap} {m : Nat} {t te : TypeId} {c : List Value} (ht : Try.prog.underlying t = some (.array 32 te)) (hu : Try.prog.underlying te = some (.int .u8)) (hs : Try.prog.cellsOf te = 1) (hs32 : Try.prog.cellsOf t = 32) (hv : Fits Try.prog h (m + 2) t c) : ∃ bs : List UInt8, c = bcells bs ∧ bs.length = 32 := by
  unfold Fits at hv
  rw [ht] at hv
  exact fits_bytes hu hs (by rw [hv.1, hs32, hs]) hv.2
end Go.Proofs.Ytagmnpeilgnbdaa.A

namespace Go.Proofs.Ytagmnpeilgnbdaa.A
open Go Go.Vm
set_option maxRecDepth 100000
set_option linter.unusedVariables false
theorem four {l : List UInt8} (h : l.length = 4) : ∃ a b c d, l = [a, b, c, d] := by
  match l, h with
  | [a, b, c, d], _ => exact ⟨a, b, c, d, rfl⟩
theorem wf_u64 {x : Int} (h : (Lit.int .u64 x).wf = true) : 0 ≤ x ∧ x ≤ 18446744073709551615 := by
  simp [Lit.wf, IntKind.min, IntKind.max, IntKind.signed, IntKind.bits] at h
  omega
theorem sig_fitG {h : Heap} {m : Nat} {te tk th tb tu : TypeId} {c : List Value} (f0 : fieldAt Try.prog te 0 = some (0, tk)) (f1 : fieldAt Try.prog te 1 = some (4, th)) (f2 : fieldAt Try.prog te 2 = some (36, tu)) (uk : Try.prog.underlying tk = some (.array 4 tb)) (uh : Try.prog.underlying th = some (.array 32 tb)) (ub : Try.prog.underlying tb = some (.int .u8)) (uu : Try.prog.underlying tu = some (.int .u64))
    (ce : Try.prog.cellsOf te = 37) (ck : Try.prog.cellsOf tk = 4) (ch : Try.prog.cellsOf th = 32) (cb : Try.prog.cellsOf tb = 1) (cu : Try.prog.cellsOf tu = 1) (hv : Fits Try.prog h (m + 3) te c) : ∃ s : Sg, (0 ≤ s.sg ∧ s.sg < 18446744073709551616) ∧ c = s.cells := by
  have hlen := hv.len f0
  rw [ce] at hlen
  have hk := hv.field f0
  rw [ck] at hk
  have hb : ∃ bs : List UInt8, (c.drop 0).take 4 = bcells bs ∧ bs.length = 4 := by
    unfold Fits at hk
    rw [uk] at hk
    exact fits_bytes ub cb (by rw [hk.1, ck, cb]) hk.2
  obtain ⟨bs, hb1, hb2⟩ := hb
  obtain ⟨a0, a1, a2, a3, rfl⟩ := four hb2
  obtain ⟨hs, k1, k1l⟩ := fits_flat32 (m := m) uh ub cb ch (hv.field f1)
  rw [ch] at k1
  obtain ⟨x, k2, w2⟩ := (hv.field f2).int uu
  rw [cu] at k2
  have hx := wf_u64 w2
  refine ⟨⟨a0, a1, a2, a3, hs, x, k1l⟩, ⟨hx.1, by show x < _; omega⟩, ?_⟩
  rw [← List.drop_zero (l := c), vsplit c 0 4, hb1, vsplit c (0 + 4) 32, k1, vsplit c (0 + 4 + 32) 1, k2, show c.drop (0 + 4 + 32 + 1) = [] from List.drop_eq_nil_of_le (by omega), List.append_nil]
  rfl
theorem sigs_fit {h : Heap} {m : Nat} {te tk th tb tu : TypeId} (f0 : fieldAt Try.prog te 0 = some (0, tk)) (f1 : fieldAt Try.prog te 1 = some (4, th)) (f2 : fieldAt Try.prog te 2 = some (36, tu)) (uk : Try.prog.underlying tk = some (.array 4 tb)) (uh : Try.prog.underlying th = some (.array 32 tb)) (ub : Try.prog.underlying tb = some (.int .u8)) (uu : Try.prog.underlying tu = some (.int .u64))
    (ce : Try.prog.cellsOf te = 37) (ck : Try.prog.cellsOf tk = 4) (ch : Try.prog.cellsOf th = 32) (cb : Try.prog.cellsOf tb = 1) (cu : Try.prog.cellsOf tu = 1) :
    ∀ (len : Nat) (c : List Value), c.length = len * 37 → (∀ i, i < len → Fits Try.prog h (m + 3) te ((c.drop (i * 37)).take 37)) → ∃ l : List Sg, c = gcells l ∧ l.length = len ∧ ∀ s ∈ l, 0 ≤ s.sg ∧ s.sg < 18446744073709551616
  | 0, c, hl, _ => ⟨[], by simpa [gcells] using hl, rfl, by simp⟩
  | len + 1, c, hl, hall => by
    have h0 := hall 0 (by omega)
    rw [Nat.zero_mul, List.drop_zero] at h0
    obtain ⟨s, hs, e0⟩ := sig_fitG f0 f1 f2 uk uh ub uu ce ck ch cb cu h0
    obtain ⟨l, e1, e2, e3⟩ := sigs_fit f0 f1 f2 uk uh ub uu ce ck ch cb cu len (c.drop 37) (by rw [List.length_drop]; omega) fun i hi => by
      have := hall (i + 1) (by omega)
      rw [List.drop_drop]
      rw [show (i + 1) * 37 = 37 + i * 37 from by omega] at this
      exact this
    refine ⟨s :: l, ?_, by simp [e2], fun x hx => ?_⟩
    · rw [gcells_cons, ← e1, ← e0, List.take_append_drop]
    · rcases List.mem_cons.1 hx with rfl | q
      · exact hs
      · exact e3 x q
theorem fits_sigs {h : Heap} {t te tk th tb tu : TypeId} {v : Value} (ht : Try.prog.underlying t = some (.slice te)) (f0 : fieldAt Try.prog te 0 = some (0, tk)) (f1 : fieldAt Try.prog te 1 = some (4, th)) (f2 : fieldAt Try.prog te 2 = some (36, tu)) (uk : Try.prog.underlying tk = some (.array 4 tb)) (uh : Try.prog.underlying th = some (.array 32 tb)) (ub : Try.prog.underlying tb = some (.int .u8)) (uu : Try.prog.underlying tu = some (.int .u64))
    (ce : Try.prog.cellsOf te = 37) (ck : Try.prog.cellsOf tk = 4) (ch : Try.prog.cellsOf th = 32) (cb : Try.prog.cellsOf tb = 1) (cu : Try.prog.cellsOf tu = 1) (hv : FitsV Try.prog h 8 t v) :
    ∃ l : List Sg, Rd h 37 v (gcells l) l.length ∧ ∀ s ∈ l, 0 ≤ s.sg ∧ s.sg < 18446744073709551616 := by
  unfold FitsV at hv
  rw [ht] at hv
  unfold Fits at hv
  rw [ht] at hv
  rcases hv with hv | ⟨b, len, cap, c, hv, hb, hlc, hcap, hro, hl, hall⟩
  · injection hv with hv _
    subst hv
    exact ⟨[], Rd.nil, by simp⟩
  · rw [ce] at hl hall
    obtain ⟨l, rfl, e2, e3⟩ := sigs_fit (m := 4) f0 f1 f2 uk uh ub uu ce ck ch cb cu len c hl hall
    have hal := gcells_len l
    injection hv with hv _
    subst hv
    refine ⟨l, ⟨_, _, by rw [e2], hal, fun hn => ⟨b, 0, none, rfl, hb, ?_⟩⟩, e3⟩
    rw [cellsAt_of (c := gcells l) (by rw [hro (by omega)]; rfl) (by omega), List.drop_zero, List.take_of_length_le (by omega)]
end Go.Proofs.Ytagmnpeilgnbdaa.A

namespace Go.Proofs.Ytagmnpeilgnbdaa.A
open Go Go.Vm
set_option maxRecDepth 100000
set_option linter.unusedVariables false
theorem in_sigs {h : Heap} {v : Value} (hv : FitsV Try.prog h 8 22 v) : ∃ l : List Sg, Rd h 37 v (gcells l) l.length ∧ ∀ s ∈ l, 0 ≤ s.sg ∧ s.sg < 18446744073709551616 :=
  fits_sigs (te := 38) (tk := 33) (th := 35) (tb := 5) (tu := 36) (by kernel_rfl) (by kernel_rfl) (by kernel_rfl) (by kernel_rfl) (by kernel_rfl) (by kernel_rfl) (by kernel_rfl) (by kernel_rfl) (by kernel_rfl) (by kernel_rfl) (by kernel_rfl) (by kernel_rfl) (by kernel_rfl) hv
end Go.Proofs.Ytagmnpeilgnbdaa.A

namespace Go.Proofs.Ytagmnpeilgnbdaa.A
open Go Go.Vm
set_option maxRecDepth 10000
set_option linter.unusedVariables false
theorem at_lt {L : List Sg} (hs : SrtG L) {i j : Nat} (hij : i < j) (hj : j < L.length) : ltG (at' L i) (at' L j) = true := by
  rw [at_eq (by omega), at_eq hj]
  exact List.pairwise_iff_getElem.1 hs i j (by omega) hj hij
structure WhoIs (hs : List UInt8) (L : List Sg) (k : Nat) (W : List K4) : Prop where
  ris : W.Pairwise fun a b => bv a.bs < bv b.bs
  from' : ∀ x ∈ W, ∃ i, i < k ∧ x = (at' L i).k4
  all : ∀ i, i < k → (at' L i).hash = hs → (at' L i).k4 ∈ W
theorem turned {l : List Sg} {d : Nat} {s : Sg} : (∃ i, i < l.length ∧ s = at' l ((i + d) % l.length)) ↔ s ∈ l := by
  constructor
  · rintro ⟨i, hi, rfl⟩
    exact at_mem (Nat.mod_lt _ (by omega))
  · intro h
    obtain ⟨j, hj, e⟩ := List.mem_iff_getElem.1 h
    have hn : 0 < l.length := by omega
    refine ⟨(j + (l.length - d % l.length)) % l.length, Nat.mod_lt _ hn, ?_⟩
    have hd := Nat.mod_lt d hn
    have hd2 := Nat.div_add_mod d l.length
    have : ((j + (l.length - d % l.length)) % l.length + d) % l.length = j := by
      rw [Nat.mod_add_mod]
      have e2 : j + (l.length - d % l.length) + d = j + l.length * (d / l.length + 1) := by
        rw [Nat.mul_add, Nat.mul_one]
        omega
      rw [e2, Nat.add_mul_mod_self_left]
      exact Nat.mod_eq_of_lt hj
    rw [this, at_eq hj, e]
end Go.Proofs.Ytagmnpeilgnbdaa.A

namespace Go.Proofs.Ytagmnpeilgnbdaa.A
open Go Go.Vm
set_option maxRecDepth 10000
set_option linter.unusedVariables false
instance XOp.geqS {P : Program} {ts : List Value} {h : Heap} {x y : Operand} {t t' ty : TypeId} {s s' : ByteArray} [e1 : Ev ts x (.string s)] [e2 : Ev ts y (.string s')] : XOp P ts h (.bin .geq (so (.binOp .geq t x y t') ty) x y) (.bool (!Op.bytesLess s.toList s'.toList)) h :=
  ⟨rfl, (bin_raw (by intro k a b hu; cases hu) e1.eq e2.eq).trans (raw_bin e1.eq e2.eq rfl rfl rfl rfl)⟩
end Go.Proofs.Ytagmnpeilgnbdaa.A

namespace Go.Proofs.Ytagmnpeilgnbdaa.A
open Go Go.Vm
set_option maxRecDepth 100000
set_option linter.unusedVariables false
end Go.Proofs.Ytagmnpeilgnbdaa.A

namespace Go.Proofs.Ytagmnpeilgnbdaa.A
open Go Go.Vm
set_option maxRecDepth 10000
set_option linter.unusedVariables false
theorem big_ok {h : Heap} {v : Value} {l : List UInt8} (hr : Rd h 1 v (bcells l) l.length) (hl : l.length ≤ 8) :
    Runs Try.prog T0 (.fn fn_zqdQ) [v] h (fun r h' => r = .int .u64 (bigN l) ∧ h' = h) (fun _ _ => False) := by
  obtain ⟨a, cap, rfl, hlen, hc⟩ := hr
  refine zqdQ_runs ?_
  refine stpDP ?_
  refine loop2 zqdQ_l0_M 2 7 (fun m v2 v7 h' => ∃ k : Nat, k ≤ l.length ∧ m = l.length - k ∧ v7 = .int .i64 k ∧ v2 = .int .u64 (bigN (l.take k)) ∧ h' = h) ?_ l.length ⟨0, by omega, rfl, rfl, rfl, rfl⟩
  rintro m v2 v7 h' x4 x8 x9 x10 x11 x12 x13 x14 x15 x16 ⟨k, hk, rfl, rfl, rfl, rfl⟩
  refine stpDP ?_
  refine C.if (fun hlt => ?_) (fun hge => ?_)
  · obtain ⟨b, o, sp, rfl, hb, hcc⟩ := hc (by omega)
    rw [Nat.mul_one] at hcc
    haveI := Go.Vm.byte_cell (k := k) hcc (by omega)
    have h8 := bigN_take_lt (l := l) (k := k) (by omega)
    have hbt := (l.getD k 0).toNat_lt
    have hs := bigN_take (l := l) (k := k) (by omega)
    refine stpDP ?_
    refine O.how (XOp.shl8 ⟨by omega, by omega⟩) ?_
    refine stpDP ?_
    refine O.how (XOp.orByte (by omega) (by omega)) ?_
    refine stpDP ?_
    refine loop2a 2 7 (l.length - (k + 1)) (by omega) ⟨k + 1, by omega, rfl, rfl, by rw [hs], rfl⟩
  · obtain rfl : k = l.length := by omega
    refine stpDP ?_
    rw [List.take_length]
    exact ⟨rfl, rfl⟩
end Go.Proofs.Ytagmnpeilgnbdaa.A

namespace Go.Proofs.Ytagmnpeilgnbdaa.A
open Go Go.Vm
set_option maxRecDepth 10000
set_option linter.unusedVariables false
def thrown (e a : Int) : List PanicEntry := [{ v := .iface ty_wire_wrong (.agg ⟨[.int .i64 e, .int .i64 a]⟩), recovered := false }]
theorem must_yes {h : Heap} {e a : Int} : Runs Try.prog T0 (.fn fn_zrdQ) [.bool true, .int .i64 e, .int .i64 a] h (fun r h' => h' = h) (fun _ _ => False) := by
  refine zrdQ_runs ?_
  refine stp ?_
  rfl
theorem must_no {h : Heap} {e a : Int} : Runs Try.prog T0 (.fn fn_zrdQ) [.bool false, .int .i64 e, .int .i64 a] h (fun r h' => False) (fun c h' => c = thrown e a ∧ h' = h) := by
  refine zrdQ_runs ?_
  refine stp ?_
  exact ⟨rfl, rfl⟩
theorem must_ok {h : Heap} {b : Bool} {e a : Int} : Runs Try.prog T0 (.fn fn_zrdQ) [.bool b, .int .i64 e, .int .i64 a] h (fun r h' => b = true ∧ h' = h) (fun c h' => b = false ∧ c = thrown e a ∧ h' = h) := by
  cases b with
  | true => exact must_yes.mono (fun _ _ h => ⟨rfl, h⟩) (fun _ _ h => h.elim)
  | false => exact must_no.mono (fun _ _ h => h.elim) (fun _ _ h => ⟨rfl, h⟩)
structure PR (h : Heap) (p : Nat) (sv : Value) (bs : List UInt8) (pl : Nat) (e fa : Int) : Prop where
  at_le : pl ≤ bs.length
  small : bs.length < 1048576
  lt : p < h.n
  get : h.get p = .cells [sv, .int .i64 pl, .int .i64 e, .int .i64 fa, .bool true] 0
  own : Own h 1 sv (bcells bs) bs.length
  apart : ¬ ownedBy sv p
theorem PR.keep {S : Nat → Prop} {h h' : Heap} {p : Nat} {sv : Value} {bs : List UInt8} {pl : Nat} {e fa : Int} (hp : PR h p sv bs pl e fa) (hf : Fr S h h') (hs : ¬ S p) (hb : ∀ i, ownedBy sv i → ¬ S i) : PR h' p sv bs pl e fa :=
  ⟨hp.at_le, hp.small, hf.lt hp.lt, by rw [hf.get p hp.lt hs, hp.get], hp.own.keep hf hb, hp.apart⟩
theorem PR.none {h h' : Heap} {p : Nat} {sv : Value} {bs : List UInt8} {pl : Nat} {e fa : Int} (hp : PR h p sv bs pl e fa) (hf : Fr (fun _ => False) h h') : PR h' p sv bs pl e fa := hp.keep hf id fun _ _ => id
theorem PR.turn {h : Heap} {p : Nat} {sv : Value} {bs : List UInt8} {pl pl' : Nat} {e fa e' fa' : Int} (hp : PR h p sv bs pl e fa) (hl : pl' ≤ bs.length) :
    PR (h.set p (.cells [sv, .int .i64 pl', .int .i64 e', .int .i64 fa', .bool true] 0)) p sv bs pl' e' fa' :=
  ⟨hl, hp.small, by simpa using hp.lt, by rw [Heap.get_set, if_pos rfl], hp.own.keep (S := fun i => i = p) (Fr.refl.set fun _ => rfl) fun b hb hbp => hp.apart (hbp ▸ hb), hp.apart⟩
theorem takeU64_ok {h : Heap} {p : Nat} {sv : Value} {bs : List UInt8} {pl n : Nat} {fa a0 : Int} {fid : FuncId} {first captured : List Value} {R : RP} (hr : PR h p sv bs pl 0 fa) (hn : n < 1048576)
    (hm : ∀ h1 v, Fr (fun i => i = p) h h1 → PR h1 p sv bs (pl + n) 0 fa → pl + n ≤ bs.length → (∀ i, blockOf v i → ownedBy sv i) → Rd h1 1 v (bcells ((bs.drop pl).take n)) n → Runs Try.prog T0 (.fn fid) (first ++ [v] ++ captured) h1 R (fun _ _ => False)) :
    Runs Try.prog T0 (.fn fn_zzdQ) [.pointer (some ⟨p, 0, none⟩), .int .i64 n, .int .i64 a0, .func (.func fid) ⟨first⟩ ⟨captured⟩] h R (fun c h' => bs.length < pl + n ∧ c = thrown 6 a0 ∧ h' = h) := by
  have hr' := hr
  obtain ⟨hle, hsm, hp, hget, hown, hnot⟩ := hr
  obtain ⟨a, cap, rfl, hlen, _⟩ := hown.rd
  haveI : HGet h p _ := ⟨hget⟩
  refine zzdQ_runs ?_
  refine stp ?_
  refine D.callX must_ok (fun v h' hv => rfl) (fun v h' hv => ?_) (fun c h' hx => ⟨rfl, ?_⟩)
  · obtain ⟨hle2, rfl⟩ := hv
    have hle2 : (n : Int) ≤ bs.length - pl := of_decide_eq_true hle2
    refine stp ?_
    have hp2 := hr'.turn (pl' := pl + n) (e' := 0) (fa' := fa) (by omega)
    refine D.slice pl (pl + n) (by omega) hp2.own (by omega) (by omega) (by omega) (by omega) (fun v' hbl hrd => ?_)
    rw [Nat.mul_one, Nat.mul_one, bcells_drop, bcells_take, Nat.add_sub_cancel_left] at hrd
    refine D.callX (hm _ v' (Fr.refl.set fun _ => rfl) hp2 (by omega) hbl hrd) (fun _ _ _ => rfl) (fun r h2 hr => ?_) (fun _ _ hx => hx.elim)
    refine stp ?_
    exact hr
  · obtain ⟨hlt, rfl, rfl⟩ := hx
    have hlt : ¬ (n : Int) ≤ bs.length - pl := of_decide_eq_false hlt
    refine stp ?_
    exact ⟨by omega, rfl, rfl⟩
end Go.Proofs.Ytagmnpeilgnbdaa.A

namespace Go.Proofs.Ytagmnpeilgnbdaa.A
open Go Go.Vm
set_option maxRecDepth 10000
set_option linter.unusedVariables false
theorem num1_ok {h : Heap} {v : Value} {l : List UInt8} {a b : Nat} {k : Nat} {x : Int} (hr : Rd h 1 v (bcells l) l.length) (hl : l.length ≤ 8) (hk : k = l.length) [ha : HGet h a (.cells [.int .i64 k] 0)] [hb : HGet h b (.cells [.int .u8 x] 0)] (hv : ∀ i, blockOf v i → i ≠ b) :
    Runs Try.prog T0 (.fn fn_zjdQ) [v, .pointer (some ⟨a, 0, none⟩), .pointer (some ⟨b, 0, none⟩)] h
      (fun r h' => r = .int .u64 (bigN l) ∧ h' = if 0 < k then h.set b (.cells [.int .u8 (l.getD 0 0).toNat] 0) else h) (fun _ _ => False) := by
  have hr' := hr
  obtain ⟨ad, cap, rfl, hlen, hc⟩ := hr
  refine zjdQ_runs ?_
  refine stp ?_
  refine C.if (fun hpos => ?_) (fun hz => ?_)
  · obtain ⟨q, o, sp, rfl, hq, hcc⟩ := hc (by omega)
    rw [Nat.mul_one] at hcc
    haveI := Go.Vm.byte_cell (k := 0) hcc (by omega)
    refine stp ?_
    refine O.call' (big_ok (l := l) (hr'.keep (S := fun i => i = b) (h' := h.set b (.cells [.int .u8 (l.getD 0 0).toNat] 0)) (Fr.refl.set fun _ => rfl) hv) hl) (fun r h' hr => ?_)
    obtain ⟨rfl, rfl⟩ := hr
    refine stp ?_
    rw [if_pos (by omega)]
    exact ⟨rfl, rfl⟩
  · refine stp ?_
    refine O.call' (big_ok (l := l) hr' hl) (fun r h' hr => ?_)
    obtain ⟨rfl, rfl⟩ := hr
    refine stp ?_
    rw [if_neg (by omega)]
    exact ⟨rfl, rfl⟩
theorem num_ok {h : Heap} {p : Nat} {sv : Value} {bs : List UInt8} {pl : Nat} {fa : Int} (hr : PR h p sv bs pl 0 fa) :
    Runs Try.prog T0 (.fn fn_zidQ) [.pointer (some ⟨p, 0, none⟩), .int .i64 pl] h
      (fun r h' => ∃ n pl', numS bs pl = .ok (n, pl') ∧ r = .int .i64 n ∧ PR h' p sv bs pl' 0 fa ∧ Fr (fun i => i = p) h h')
      (fun c h' => ∃ e pl', numS bs pl = .error e ∧ c = thrown e pl ∧ PR h' p sv bs pl' 0 fa ∧ Fr (fun i => i = p) h h') := by
  have hple := hr.at_le
  have hsm := hr.small
  have hbt := (bs.getD pl 0).toNat_lt
  refine zidQ_runs ?_
  refine stp ?_
  refine O.callX (takeU64_ok (n := 1) (R := fun r h2 => r = .int .u64 (bs.getD pl 0).toNat ∧ pl + 1 ≤ bs.length ∧ PR h2 p sv bs (pl + 1) 0 fa ∧ Fr (fun i => i = p) h h2) hr (by omega) (fun h1 v hf hp1 hle hbl hrd => ?_)) (fun r h1 hr1 => ?_) (fun c h1 hx => ?_)
  · have hl1 : ((bs.drop pl).take 1).length = 1 := by simp; omega
    refine (big_ok (l := (bs.drop pl).take 1) (by rw [hl1]; exact hrd) (by omega)).imp fun r h2 hr2 => ?_
    obtain ⟨rfl, rfl⟩ := hr2
    refine ⟨?_, hle, hp1, hf⟩
    have hd : (bs.drop pl).take 1 = [bs.getD pl 0] := by
      have := take_succ_getD (l := bs.drop pl) (k := 0) (by simp; omega)
      simpa [List.getD_eq_getElem?_getD] using this
    rw [hd]
    simp [bigN]
  · obtain ⟨rfl, hle, hp1, hf1⟩ := hr1
    generalize hk : (bs.getD pl 0).toNat = k at *
    refine stp ?_
    refine O.callX must_ok (fun r h2 hr2 => ?_) (fun c h2 hx => ?_)
    · obtain ⟨hk8, rfl⟩ := hr2
      have hk8 : (k : Int) ≤ 8 := of_decide_eq_true hk8
      refine stp ?_
      have hplt := hp1.lt
      generalize hd : (bs.drop (pl + 1)).take k = d
      have hdl : pl + 1 + k ≤ bs.length → d.length = k := fun h => by rw [← hd, List.length_take, List.length_drop]; omega
      refine O.callX (takeU64_ok (n := k) (R := fun r h2 => r = .int .u64 (bigN d) ∧ pl + 1 + k ≤ bs.length ∧ PR h2 p sv bs (pl + 1 + k) 0 fa ∧ Fr (fun i => i = p) h h2 ∧
        HGet h2 (h1.push (AObj.cells [Value.int IntKind.i64 k] 0)).n (.cells [.int .u8 (if 0 < k then (d.getD 0 0).toNat else 1 : Nat)] 0)) (hp1.none Fr.refl.push.push) (by omega) (fun h2 v hf hp2 hle2 hbl hrd => ?_)) (fun r h2 hr2 => ?_) (fun c h2 hx => ?_)
      · haveI : HGet h2 h1.n _ := hf.keep (b := h1.n) (HGet.push (k := BLt.new) (g := HGet.new)) (by simp; omega) (by omega)
        haveI : HGet h2 (h1.push (AObj.cells [Value.int IntKind.i64 k] 0)).n _ := hf.keep (b := (h1.push (AObj.cells [Value.int IntKind.i64 k] 0)).n) HGet.new (by simp) (by simp; omega)
        have hnew : ∀ i, ownedBy sv i → i ≠ (h1.push (AObj.cells [Value.int IntKind.i64 k] 0)).n := fun i hi => by have := hp1.own.lt hi; simp; omega
        have hfr : Fr (fun i => i = p) h h2 := hf1.trans' (Fr.trans (S := fun i => i = p) Fr.refl.push.push hf fun i _ hi => hi)
        rw [hd] at hrd
        refine (num1_ok (a := h1.n) (b := (h1.push (AObj.cells [Value.int IntKind.i64 k] 0)).n) (k := k) (l := d) (by rw [hdl hle2]; exact hrd) (by rw [hdl hle2]; omega) (hdl hle2).symm (fun i hi => hnew i (hbl i hi))).imp fun r h3 hr3 => ?_
        obtain ⟨rfl, rfl⟩ := hr3
        by_cases hk0 : 0 < k
        · rw [if_pos hk0, if_pos hk0]
          refine ⟨rfl, hle2, hp2.keep (S := fun i => i = _) (Fr.refl.set fun _ => rfl) (by simp; omega) hnew, hfr.set fun hlt => ?_, HGet.same⟩
          have := hf1.n
          simp at hlt; omega
        · rw [if_neg hk0, if_neg hk0]
          exact ⟨rfl, hle2, hp2, hfr, inferInstance⟩
      · obtain ⟨rfl, hle2, hp2, hf2, hg2⟩ := hr2
        have hbn : bigN d < 18446744073709551616 := by
          have := bigN_lt d
          have h2 : 256 ^ d.length ≤ 256 ^ 8 := Nat.pow_le_pow_right (by omega) (by rw [hdl hle2]; omega)
          omega
        refine stp ?_
        refine O.decN (fun hne => ?_) (fun heq => ?_)
        · refine stp ?_
          have hfirst : ¬ (0 < k ∧ (d.getD 0 0).toNat = 0) := fun ⟨h1, h2⟩ => hne (by rw [if_pos h1, h2]; rfl)
          refine O.callX must_ok (fun r h3 hr3 => ?_) (fun c h3 hx => ?_)
          · obtain ⟨hmax, rfl⟩ := hr3
            have hmax : (bigN d : Int) ≤ 9223372036854775807 := of_decide_eq_true hmax
            refine stp ?_
            refine ⟨bigN d, pl + 1 + k, ?_, rfl, hp2, hf2⟩
            unfold numS
            rw [hk, hd, if_neg (by omega), if_neg (by omega), if_neg (by omega), if_neg (fun h => h.elim hfirst fun h => by omega)]
          · obtain ⟨hmax, rfl, rfl⟩ := hx
            have hmax : ¬ (bigN d : Int) ≤ 9223372036854775807 := of_decide_eq_false hmax
            refine stp ?_
            refine ⟨5, pl + 1 + k, ?_, rfl, hp2, hf2⟩
            unfold numS
            rw [hk, hd, if_neg (by omega), if_neg (by omega), if_neg (by omega), if_pos (.inr (by omega))]
        · refine stp ?_
          have hfirst : 0 < k ∧ (d.getD 0 0).toNat = 0 := by
            by_cases h0 : 0 < k
            · rw [if_pos h0] at heq; exact ⟨h0, by omega⟩
            · rw [if_neg h0] at heq; cases heq
          refine O.callX must_no (fun r h3 hr3 => hr3.elim) (fun c h3 hx => ?_)
          obtain ⟨rfl, rfl⟩ := hx
          refine stp ?_
          refine ⟨5, pl + 1 + k, ?_, rfl, hp2, hf2⟩
          unfold numS
          rw [hk, hd, if_neg (by omega), if_neg (by omega), if_neg (by omega), if_pos (.inl hfirst)]
      · obtain ⟨hlt, rfl, rfl⟩ := hx
        refine stp ?_
        refine ⟨6, pl + 1, ?_, rfl, hp1.none Fr.refl.push.push, hf1.push.push⟩
        unfold numS
        rw [hk, if_neg (by omega), if_neg (by omega), if_pos (by omega)]
    · obtain ⟨hk8, rfl, rfl⟩ := hx
      have hk8 : ¬ (k : Int) ≤ 8 := of_decide_eq_false hk8
      refine stp ?_
      refine ⟨5, pl + 1, ?_, rfl, hp1.none Fr.refl.push, hf1.push⟩
      unfold numS
      rw [hk, if_neg (by omega), if_pos (by omega)]
  · obtain ⟨hlt, rfl, rfl⟩ := hx
    refine stp ?_
    refine ⟨6, pl, ?_, rfl, hr, Fr.refl⟩
    unfold numS
    rw [if_pos (by omega)]
end Go.Proofs.Ytagmnpeilgnbdaa.A

namespace Go.Proofs.Ytagmnpeilgnbdaa.A
open Go Go.Vm
set_option maxRecDepth 10000
set_option linter.unusedVariables false
theorem caught_none {h : Heap} {v : Value} : RunDf Try.prog T0 fn_zhdQ [v] .returning h (fun u h' => u = .returning ∧ h' = h) (fun _ _ _ => False) := by
  refine zhdQ_df ?_
  refine dstp ?_
  exact ⟨rfl, rfl⟩
theorem caught_ok {h : Heap} {p : Nat} {sv : Value} {bs : List UInt8} {pl : Nat} {e fa x a : Int} (hr : PR h p sv bs pl e fa) :
    RunDf Try.prog T0 fn_zhdQ [.pointer (some ⟨p, 0, none⟩)] (.panicking (thrown x a)) h (fun u h' => settle u = .returning ∧ PR h' p sv bs pl x a ∧ Fr (fun i => i = p) h h') (fun _ _ _ => False) := by
  haveI : HGet h p _ := ⟨hr.get⟩
  haveI : BLt p h := ⟨hr.lt⟩
  refine zhdQ_df ?_
  refine dstp ?_
  exact ⟨rfl, (hr.none Fr.refl.push).turn hr.at_le, Fr.refl.push.set fun _ => rfl⟩
def readQ (h : Heap) (p : Nat) (sv : Value) (bs : List UInt8) (pl : Nat) (zero : Value) (S : Except Int (Value × Nat)) (r : Value) (h' : Heap) : Prop :=
  Fr (fun i => i = p) h h' ∧ match S with
    | .ok (v, pl') => r = v ∧ PR h' p sv bs pl' 0 0
    | .error e => r = zero ∧ ∃ pl', PR h' p sv bs pl' e pl
theorem readsInt_ok {h : Heap} {p : Nat} {sv : Value} {bs : List UInt8} {pl : Nat} {fid : FuncId} {first captured : List Value} {S : Except Int (Value × Nat)} (hr : PR h p sv bs pl 0 0)
    (hm : Runs Try.prog T0 (.fn fid) (first ++ [.int .i64 pl] ++ captured) h (fun r h' => ∃ v pl', S = .ok (v, pl') ∧ r = v ∧ PR h' p sv bs pl' 0 0 ∧ Fr (fun i => i = p) h h')
      (fun c h' => ∃ e pl', S = .error e ∧ c = thrown e pl ∧ PR h' p sv bs pl' 0 0 ∧ Fr (fun i => i = p) h h')) :
    Runs Try.prog T0 (.fn fn_zvdQ) [.pointer (some ⟨p, 0, none⟩), .func (.func fid) ⟨first⟩ ⟨captured⟩] h (readQ h p sv bs pl (.int .i64 0) S) (fun _ _ => False) := by
  haveI : HGet h p _ := ⟨hr.get⟩
  haveI : BLt p h := ⟨hr.lt⟩
  refine zvdQ_runs ?_
  refine stp ?_
  refine O.callX hm (fun r h1 hr1 => ?_) (fun c h1 hx => ?_)
  · obtain ⟨v, pl', hS, rfl, hp1, hf⟩ := hr1
    refine stp ?_
    refine caught_none.mono (fun u' h' hu => ?_) (fun _ _ _ hx => hx.elim)
    obtain ⟨rfl, rfl⟩ := hu
    refine L.nil ⟨hf, ?_⟩
    rw [hS]
    exact ⟨rfl, hp1⟩
  · obtain ⟨e, pl', hS, rfl, hp1, hf⟩ := hx
    refine stp ?_
    refine (caught_ok hp1).mono (fun u' h' hu => ?_) (fun _ _ _ hx => hx.elim)
    obtain ⟨hs, hp2, hf2⟩ := hu
    rw [hs]
    refine L.nil ⟨hf.trans' hf2, ?_⟩
    rw [hS]
    exact ⟨rfl, pl', hp2⟩
theorem readsInt_bad {h : Heap} {p : Nat} {sv : Value} {bs : List UInt8} {pl : Nat} {e fa : Int} {f : Value} (hr : PR h p sv bs pl e fa) (he : e ≠ 0) :
    Runs Try.prog T0 (.fn fn_zvdQ) [.pointer (some ⟨p, 0, none⟩), f] h (fun r h' => r = .int .i64 0 ∧ h' = h) (fun _ _ => False) := by
  haveI : HGet h p _ := ⟨hr.get⟩
  haveI : BLt p h := ⟨hr.lt⟩
  refine zvdQ_runs ?_
  refine stp ?_
  refine C.ifB (fun h1 => ?_) (fun h1 => ?_)
  · refine stp ?_
    exact ⟨rfl, rfl⟩
  · exfalso; simp at h1; exact he h1
theorem Num_ok {h : Heap} {p : Nat} {sv : Value} {bs : List UInt8} {pl : Nat} (hr : PR h p sv bs pl 0 0) :
    Runs Try.prog T0 (.fn fn_zddQ) [.pointer (some ⟨p, 0, none⟩)] h (readQ h p sv bs pl (.int .i64 0) ((numS bs pl).map fun x => (.int .i64 x.1, x.2))) (fun _ _ => False) := by
  refine zddQ_runs ?_
  refine stp ?_
  refine O.call' (readsInt_ok (S := (numS bs pl).map fun x => (.int .i64 x.1, x.2)) hr ((num_ok hr).mono (fun r h' hq => ?_) (fun c h' hq => ?_))) (fun r h' hq => ?_)
  · obtain ⟨n, pl', h1, h2, h3, h4⟩ := hq
    exact ⟨_, pl', by rw [h1]; rfl, h2, h3, h4⟩
  · obtain ⟨e, pl', h1, h2, h3, h4⟩ := hq
    exact ⟨e, pl', by rw [h1]; rfl, h2, h3, h4⟩
  · refine stp ?_
    exact hq
theorem Num_bad {h : Heap} {p : Nat} {sv : Value} {bs : List UInt8} {pl : Nat} {e fa : Int} (hr : PR h p sv bs pl e fa) (he : e ≠ 0) :
    Runs Try.prog T0 (.fn fn_zddQ) [.pointer (some ⟨p, 0, none⟩)] h (fun r h' => r = .int .i64 0 ∧ h' = h) (fun _ _ => False) := by
  refine zddQ_runs ?_
  refine stp ?_
  refine O.call' (readsInt_bad hr he) (fun r h' hq => ?_)
  obtain ⟨rfl, rfl⟩ := hq
  refine stp ?_
  exact ⟨rfl, rfl⟩
end Go.Proofs.Ytagmnpeilgnbdaa.A

namespace Go.Proofs.Ytagmnpeilgnbdaa.A
open Go Go.Vm
set_option maxRecDepth 10000
set_option linter.unusedVariables false
theorem End_ok {h : Heap} {p : Nat} {sv : Value} {bs : List UInt8} {pl : Nat} {e fa : Int} (hr : PR h p sv bs pl e fa) :
    Runs Try.prog T0 (.fn fn_zwcQ) [.pointer (some ⟨p, 0, none⟩)] h
      (fun r h' => r = .agg ⟨if e = 0 ∧ pl < bs.length then [.int .i64 4, .int .i64 pl] else [.int .i64 e, .int .i64 fa]⟩ ∧ Fr (fun _ => False) h h') (fun _ _ => False) := by
  obtain ⟨a, cap, rfl, hlen, _⟩ := hr.own.rd
  haveI : HGet h p _ := ⟨hr.get⟩
  haveI : BLt p h := ⟨hr.lt⟩
  refine zwcQ_runs ?_
  refine stp ?_
  refine D.dec (fun he => ?_) (fun he => ?_)
  · refine stp ?_
    refine C.if (fun hlt => ?_) (fun hge => ?_)
    · refine stp ?_
      rw [if_pos ⟨he, by omega⟩]
      exact ⟨rfl, Fr.refl.push⟩
    · refine stp ?_
      rw [if_neg (by omega)]
      exact ⟨rfl, Fr.refl.push⟩
  · refine stp ?_
    rw [if_neg (fun h => he h.1)]
    exact ⟨rfl, Fr.refl.push⟩
end Go.Proofs.Ytagmnpeilgnbdaa.A

namespace Go.Proofs.Ytagmnpeilgnbdaa.A
open Go Go.Vm
set_option maxRecDepth 10000
set_option linter.unusedVariables false
structure RSt where
  pl : Nat
  e : Int
  fa : Int
structure PRs (h : Heap) (p : Nat) (sv : Value) (bs : List UInt8) (st : RSt) : Prop where
  ex : ∃ pl, (st.e = 0 → pl = st.pl ∧ st.fa = 0) ∧ PR h p sv bs pl st.e st.fa
def rd {α : Type} (S : Nat → Except Int (α × Nat)) (zero : α) (st : RSt) : α × RSt :=
  if st.e = 0 then match S st.pl with
    | .ok (a, pl) => (a, ⟨pl, 0, 0⟩)
    | .error e => (zero, ⟨0, e, st.pl⟩)
  else (zero, st)
theorem PRs.keep {S : Nat → Prop} {h h' : Heap} {p : Nat} {sv : Value} {bs : List UInt8} {st : RSt} (hp : PRs h p sv bs st) (hf : Fr S h h') (hs : ¬ S p) (hb : ∀ i, ownedBy sv i → ¬ S i) : PRs h' p sv bs st :=
  let ⟨pl, h1, h2⟩ := hp.ex
  ⟨pl, h1, h2.keep hf hs hb⟩
theorem PRs.none {h h' : Heap} {p : Nat} {sv : Value} {bs : List UInt8} {st : RSt} (hp : PRs h p sv bs st) (hf : Fr (fun _ => False) h h') : PRs h' p sv bs st := hp.keep hf id fun _ _ => id
theorem PRs.lt {h : Heap} {p : Nat} {sv : Value} {bs : List UInt8} {st : RSt} (hp : PRs h p sv bs st) : p < h.n := let ⟨_, _, h2⟩ := hp.ex; h2.lt
theorem PRs.small {h : Heap} {p : Nat} {sv : Value} {bs : List UInt8} {st : RSt} (hp : PRs h p sv bs st) : bs.length < 1048576 := let ⟨_, _, h2⟩ := hp.ex; h2.small
theorem PRs.le {h : Heap} {p : Nat} {sv : Value} {bs : List UInt8} {st : RSt} (hp : PRs h p sv bs st) (he : st.e = 0) : st.pl ≤ bs.length := let ⟨_, h1, h2⟩ := hp.ex; (h1 he).1 ▸ h2.at_le
theorem PRs.mk' {h : Heap} {p : Nat} {sv : Value} {bs : List UInt8} {pl : Nat} (hp : PR h p sv bs pl 0 0) : PRs h p sv bs ⟨pl, 0, 0⟩ := ⟨pl, fun _ => ⟨rfl, rfl⟩, hp⟩
def Reads {α : Type} (h : Heap) (p : Nat) (sv : Value) (bs : List UInt8) (x : α × RSt) (V : α → Value → Heap → Prop) (r : Value) (h' : Heap) : Prop :=
  Fr (fun i => i = p) h h' ∧ V x.1 r h' ∧ PRs h' p sv bs x.2
theorem rd_ok {α : Type} {h h' : Heap} {p : Nat} {sv : Value} {bs : List UInt8} {pl pl' : Nat} {S : Nat → Except Int (α × Nat)} {zero a : α} {V : α → Value → Heap → Prop} {r : Value} (hS : S pl = .ok (a, pl')) (hf : Fr (fun i => i = p) h h') (hV : V a r h') (hp : PR h' p sv bs pl' 0 0) :
    Reads h p sv bs (rd S zero ⟨pl, 0, 0⟩) V r h' := by
  unfold rd
  rw [if_pos rfl]
  simp only [hS]
  exact ⟨hf, hV, .mk' hp⟩
theorem rd_err {α : Type} {h h' : Heap} {p : Nat} {sv : Value} {bs : List UInt8} {pl pl' : Nat} {e : Int} {S : Nat → Except Int (α × Nat)} {zero : α} {V : α → Value → Heap → Prop} {r : Value} (hS : S pl = .error e) (he : e ≠ 0) (hf : Fr (fun i => i = p) h h') (hV : V zero r h') (hp : PR h' p sv bs pl' e pl) :
    Reads h p sv bs (rd S zero ⟨pl, 0, 0⟩) V r h' := by
  unfold rd
  rw [if_pos rfl]
  simp only [hS]
  exact ⟨hf, hV, ⟨pl', fun h0 => absurd h0 he, hp⟩⟩
theorem rd_bad {α : Type} {h h' : Heap} {p : Nat} {sv : Value} {bs : List UInt8} {st : RSt} {S : Nat → Except Int (α × Nat)} {zero : α} {V : α → Value → Heap → Prop} {r : Value} (he : st.e ≠ 0) (hf : Fr (fun i => i = p) h h') (hV : V zero r h') (hp : PRs h' p sv bs st) :
    Reads h p sv bs (rd S zero st) V r h' := by
  unfold rd
  rw [if_neg he]
  exact ⟨hf, hV, hp⟩
theorem Num_run {h : Heap} {p : Nat} {sv : Value} {bs : List UInt8} {st : RSt} (hp : PRs h p sv bs st) :
    Runs Try.prog T0 (.fn fn_zddQ) [.pointer (some ⟨p, 0, none⟩)] h (Reads h p sv bs (rd (numS bs) 0 st) fun a r _ => r = .int .i64 (a : Nat)) (fun _ _ => False) := by
  obtain ⟨st1, e, fa⟩ := st
  obtain ⟨pl, h1, h2⟩ := hp.ex
  by_cases he : e = 0
  · subst he
    obtain ⟨rfl, h3⟩ := h1 rfl
    have h3 : fa = 0 := h3
    subst h3
    refine (Num_ok h2).imp fun r h' ⟨hf, hq⟩ => ?_
    cases hS : numS bs pl with
    | ok x =>
      rw [hS] at hq
      exact rd_ok hS hf hq.1 hq.2
    | error e =>
      rw [hS] at hq
      obtain ⟨hz, pl', hp'⟩ := hq
      exact rd_err hS (by rcases numS_err hS with rfl | rfl <;> omega) hf hz hp'
  · refine (Num_bad h2 he).imp fun r h' ⟨hz, hh⟩ => ?_
    subst hh
    exact rd_bad he Fr.refl hz hp
end Go.Proofs.Ytagmnpeilgnbdaa.A

namespace Go.Proofs.Ytagmnpeilgnbdaa.A
open Go Go.Vm
set_option maxRecDepth 10000
set_option linter.unusedVariables false
theorem NewReader_ok {h : Heap} {v : Value} {l : List UInt8} (hr : Rd h 1 v (bcells l) l.length) (hs : l.length < 1048576) :
    Runs Try.prog T0 (.fn fn_zucQ) [v] h (fun r h' => ∃ p sv, r = .pointer (some ⟨p, 0, none⟩) ∧ h.n ≤ p ∧ (∀ i, ownedBy sv i → h.n ≤ i) ∧ PRs h' p sv l ⟨0, 0, 0⟩ ∧ Fr (fun _ => False) h h') (fun _ _ => False) := by
  refine zucQ_runs ?_
  refine stp ?_
  refine O.call' (Clone_ok hr hs) (fun r h1 hq => ?_)
  obtain ⟨ho, hf, hnew⟩ := hq
  obtain ⟨a, cap, rfl, hlen, _⟩ := ho.rd
  have hn := hf.n
  refine stp ?_
  refine ⟨h1.n, _, rfl, hn, hnew, .mk' ⟨by omega, hs, by simp, by rw [Heap.get_push, if_pos rfl]; rfl, ho.keep (S := fun _ => False) Fr.refl.push fun _ _ => id, fun hi => ?_⟩, hf.push⟩
  have := ho.lt hi
  omega
def endS (bs : List UInt8) (st : RSt) : Int × Int := if st.e = 0 ∧ st.pl < bs.length then (4, st.pl) else (st.e, st.fa)
theorem End_run {h : Heap} {p : Nat} {sv : Value} {bs : List UInt8} {st : RSt} (hp : PRs h p sv bs st) :
    Runs Try.prog T0 (.fn fn_zwcQ) [.pointer (some ⟨p, 0, none⟩)] h (fun r h' => r = .agg ⟨[.int .i64 (endS bs st).1, .int .i64 (endS bs st).2]⟩ ∧ Fr (fun _ => False) h h') (fun _ _ => False) := by
  obtain ⟨pl, h1, h2⟩ := hp.ex
  refine (End_ok h2).imp fun r h' ⟨hr, hf⟩ => ⟨?_, hf⟩
  rw [hr]
  unfold endS
  by_cases he : st.e = 0
  · rw [(h1 he).1]
    split <;> rfl
  · rw [if_neg (fun h => he h.1), if_neg (fun h => he h.1)]
end Go.Proofs.Ytagmnpeilgnbdaa.A

namespace Go.Proofs.Ytagmnpeilgnbdaa.A
open Go Go.Vm
set_option maxRecDepth 10000
set_option linter.unusedVariables false
theorem Hash11_ok {h : Heap} {v : Value} {l : List UInt8} (hr : Rd h 1 v (bcells l) l.length) (hl : l.length = 32) :
    Runs Try.prog T0 (.fn fn_zzcQ) [v] h (fun r h' => r = .agg ⟨bcells l⟩ ∧ Fr (fun _ => False) h h') (fun _ _ => False) := by
  obtain ⟨a, cap, rfl, hlen, hc⟩ := hr
  obtain ⟨b, o, sp, rfl, hb, hcc⟩ := hc (by omega)
  rw [Nat.mul_one, hl] at hcc
  haveI := l32 hl
  refine zzcQ_runs ?_
  refine stp ?_
  refine O.how (XOp.mkArrayAt (by omega)) ?_
  haveI : Cells (h.push (.cells z32 0)) b o 32 (bcells l) := ⟨by rw [cellsAt_keep (S := fun _ => False) Fr.refl.push hb id]; exact hcc⟩
  refine stp ?_
  exact ⟨rfl, Fr.refl.push⟩
theorem takeH_ok {h : Heap} {p : Nat} {sv : Value} {bs : List UInt8} {pl : Nat} {fa a0 : Int} (hr : PR h p sv bs pl 0 fa) :
    Runs Try.prog T0 (.fn fn_zxdQ) [.pointer (some ⟨p, 0, none⟩), .int .i64 32, .int .i64 a0, .func (.func fn_zzcQ) ⟨[]⟩ ⟨[]⟩] h
      (fun r h' => pl + 32 ≤ bs.length ∧ r = .agg ⟨bcells ((bs.drop pl).take 32)⟩ ∧ PR h' p sv bs (pl + 32) 0 fa ∧ Fr (fun i => i = p) h h')
      (fun c h' => bs.length < pl + 32 ∧ c = thrown 6 a0 ∧ PR h' p sv bs pl 0 fa ∧ Fr (fun i => i = p) h h') := by
  have hr' := hr.none (Fr.refl.push (o := .cells z32 0))
  have hr0 := hr
  obtain ⟨hle, hsm, hp, hget, hown, hnot⟩ := hr
  obtain ⟨a, cap, rfl, hlen, _⟩ := hown.rd
  haveI : HGet h p _ := ⟨hget⟩
  haveI : BLt p h := ⟨hp⟩
  refine zxdQ_runs ?_
  refine stp ?_
  refine D.callX must_ok (fun v h' hv => rfl) (fun v h' hv => ?_) (fun c h' hx => ⟨rfl, ?_⟩)
  · obtain ⟨hle2, rfl⟩ := hv
    have hle2 := of_decide_eq_true hle2
    refine stp ?_
    have hp2 := hr'.turn (pl' := pl + 32) (e' := 0) (fa' := fa) (by omega)
    refine D.slice pl (pl + 32) (by omega) hp2.own (by omega) (by omega) (by omega) (by omega) (fun v' hbl hrd => ?_)
    rw [Nat.mul_one, Nat.mul_one, bcells_drop, bcells_take, Nat.add_sub_cancel_left] at hrd
    have hl : ((bs.drop pl).take 32).length = 32 := by rw [List.length_take, List.length_drop]; omega
    have hf0 : Fr (fun i => i = p) h ((h.push (.cells z32 0)).set p (.cells [.slice a bs.length cap, .int .i64 ↑(pl + 32), .int .i64 0, .int .i64 fa, .bool true] 0)) := Fr.refl.push.set fun _ => rfl
    refine D.callX (Hash11_ok (l := (bs.drop pl).take 32) (by rw [hl]; exact hrd) hl) (fun _ _ _ => rfl) (fun r h2 hr => ?_) (fun _ _ hx => hx.elim)
    obtain ⟨rfl, hf⟩ := hr
    haveI := l32 hl
    haveI : HGet h2 h.n _ := hf.keep (b := h.n) (HGet.set (k := ⟨by omega⟩) (g := HGet.new)) (by simp) id
    refine stp ?_
    refine ⟨by omega, rfl, (hp2.none hf).keep (S := fun i => i = h.n) (Fr.refl.set fun _ => rfl) (by omega) fun i hi hn => ?_, ?_⟩
    · have := hown.lt hi
      omega
    · refine Fr.set (Fr.trans (S := fun i => i = p) (S' := fun _ => False) hf0 hf fun _ _ h => h.elim) fun hlt => ?_
      omega
  · obtain ⟨hlt, rfl, rfl⟩ := hx
    have hlt := of_decide_eq_false hlt
    refine stp ?_
    exact ⟨by omega, rfl, hr', Fr.refl.push⟩
theorem Hash1_ok {h : Heap} {p a : Nat} {sv : Value} {bs : List UInt8} {pl : Nat} (hr : PR h p sv bs pl 0 0) [ha : HGet h a (.cells [.pointer (some ⟨p, 0, none⟩)] 0)] (ha' : a < h.n) :
    Runs Try.prog T0 (.fn fn_zycQ) [.int .i64 pl, .pointer (some ⟨a, 0, none⟩)] h
      (fun r h' => ∃ l pl', partS 32 bs pl = .ok (l, pl') ∧ (r = .agg ⟨bcells l⟩ ∧ l.length = 32) ∧ PR h' p sv bs pl' 0 0 ∧ Fr (fun i => i = p) h h')
      (fun c h' => ∃ e pl', partS 32 bs pl = .error e ∧ e ≠ 0 ∧ c = thrown e pl ∧ PR h' p sv bs pl' 0 0 ∧ Fr (fun i => i = p) h h') := by
  have hp := hr.lt
  have hr' := hr.none (Fr.refl.push (o := .cells z32 0))
  haveI : BLt a h := ⟨ha'⟩
  refine zycQ_runs ?_
  refine stp ?_
  refine O.callX (takeH_ok hr') (fun r h1 hr1 => ?_) (fun c h1 hx => ?_)
  · obtain ⟨hle, rfl, hp1, hf1⟩ := hr1
    have hl : ((bs.drop pl).take 32).length = 32 := by rw [List.length_take, List.length_drop]; omega
    haveI := l32 hl
    haveI : HGet h1 h.n _ := hf1.keep (b := h.n) HGet.new (by simp) (by omega)
    refine stp ?_
    refine ⟨_, pl + 32, by unfold partS; rw [if_neg (by omega)], ⟨rfl, hl⟩, hp1.keep (S := fun i => i = h.n) (Fr.refl.set fun _ => rfl) (by omega) fun i hi hn => ?_, ?_⟩
    · have := hr.own.lt hi
      omega
    · exact Fr.set (Fr.trans (S := fun i => i = p) Fr.refl.push hf1 fun _ _ h => h) fun hlt => by omega
  · obtain ⟨hlt, rfl, hp1, hf1⟩ := hx
    refine stp ?_
    exact ⟨6, pl, by unfold partS; rw [if_pos (by omega)], by omega, rfl, hp1, Fr.trans (S := fun i => i = p) Fr.refl.push hf1 fun _ _ h => h⟩
theorem readsH_ok {h : Heap} {p : Nat} {sv : Value} {bs : List UInt8} {pl : Nat} {fid : FuncId} {first captured : List Value} {S : Nat → Except Int (List UInt8 × Nat)} (hr : PR h p sv bs pl 0 0)
    (hm : Runs Try.prog T0 (.fn fid) (first ++ [.int .i64 pl] ++ captured) (h.push (.cells z32 0)) (fun r h' => ∃ l pl', S pl = .ok (l, pl') ∧ (r = .agg ⟨bcells l⟩ ∧ l.length = 32) ∧ PR h' p sv bs pl' 0 0 ∧ Fr (fun i => i = p) (h.push (.cells z32 0)) h')
      (fun c h' => ∃ e pl', S pl = .error e ∧ e ≠ 0 ∧ c = thrown e pl ∧ PR h' p sv bs pl' 0 0 ∧ Fr (fun i => i = p) (h.push (.cells z32 0)) h')) :
    Runs Try.prog T0 (.fn fn_ztdQ) [.pointer (some ⟨p, 0, none⟩), .func (.func fid) ⟨first⟩ ⟨captured⟩] h (Reads h p sv bs (rd S zb32 ⟨pl, 0, 0⟩) fun l r h' => r = .agg ⟨bcells l⟩ ∧ l.length = 32) (fun _ _ => False) := by
  haveI : HGet h p _ := ⟨hr.get⟩
  haveI : BLt p h := ⟨hr.lt⟩
  have hp := hr.lt
  refine ztdQ_runs ?_
  refine stp ?_
  refine O.callX hm (fun r h1 hr1 => ?_) (fun c h1 hx => ?_)
  · obtain ⟨l, pl', hS, ⟨rfl, hl⟩, hp1, hf⟩ := hr1
    haveI := l32 hl
    haveI : HGet h1 h.n _ := hf.keep (b := h.n) HGet.new (by simp) (by omega)
    refine stp ?_
    refine caught_none.mono (fun u' h' hu => ?_) (fun _ _ _ hx => hx.elim)
    obtain ⟨rfl, rfl⟩ := hu
    refine L.nil (rd_ok hS ?_ ⟨rfl, hl⟩ (hp1.keep (S := fun i => i = h.n) (Fr.refl.set fun _ => rfl) (by omega) fun i hi hn => ?_))
    · exact Fr.set (Fr.trans (S := fun i => i = p) Fr.refl.push hf fun _ _ h => h) fun hlt => by omega
    · have := hr.own.lt hi
      omega
  · obtain ⟨e, pl', hS, he, rfl, hp1, hf⟩ := hx
    refine stp ?_
    refine (caught_ok hp1).mono (fun u' h' hu => ?_) (fun _ _ _ hx => hx.elim)
    obtain ⟨hs, hp2, hf2⟩ := hu
    rw [hs]
    haveI : HGet h' h.n _ := (hf.trans' hf2).keep (b := h.n) HGet.new (by simp) (by omega)
    exact L.nil (rd_err hS he (Fr.trans (S := fun i => i = p) Fr.refl.push (hf.trans' hf2) fun _ _ h => h) ⟨rfl, rfl⟩ hp2)
theorem readsH_bad {h : Heap} {p : Nat} {sv : Value} {bs : List UInt8} {pl : Nat} {e fa : Int} {f : Value} (hr : PR h p sv bs pl e fa) (he : e ≠ 0) :
    Runs Try.prog T0 (.fn fn_ztdQ) [.pointer (some ⟨p, 0, none⟩), f] h (fun r h' => r = .agg ⟨z32⟩ ∧ Fr (fun _ => False) h h') (fun _ _ => False) := by
  haveI : HGet h p _ := ⟨hr.get⟩
  haveI : BLt p h := ⟨hr.lt⟩
  refine ztdQ_runs ?_
  refine stp ?_
  refine C.ifB (fun h1 => ?_) (fun h1 => ?_)
  · refine stp ?_
    exact ⟨rfl, Fr.refl.push⟩
  · exfalso; simp at h1; exact he h1
theorem Hash_run {h : Heap} {p : Nat} {sv : Value} {bs : List UInt8} {st : RSt} (hp : PRs h p sv bs st) :
    Runs Try.prog T0 (.fn fn_zxcQ) [.pointer (some ⟨p, 0, none⟩)] h (Reads h p sv bs (rd (partS 32 bs) zb32 st) fun l r _ => r = .agg ⟨bcells l⟩ ∧ l.length = 32) (fun _ _ => False) := by
  obtain ⟨st1, e, fa⟩ := st
  obtain ⟨pl, h1, h2⟩ := hp.ex
  have hlt := h2.lt
  refine zxcQ_runs ?_
  refine stp ?_
  have hf0 : Fr (fun i => i = p) h ((h.push (AObj.cells [Value.pointer (some ⟨p, 0, none⟩)] 0)).push (AObj.cells z32 0)) := Fr.refl.push.push
  by_cases he : e = 0
  · subst he
    obtain ⟨rfl, h3⟩ := h1 rfl
    have h3 : fa = 0 := h3
    subst h3
    refine O.call' (readsH_ok (S := partS 32 bs) (h2.none Fr.refl.push.push) (Hash1_ok (h2.none Fr.refl.push.push.push) (by simp; omega))) (fun r h' hq => ?_)
    obtain ⟨hf, ⟨rfl, hl⟩, hp'⟩ := hq
    haveI := l32 hl
    haveI : HGet h' (h.push (AObj.cells [Value.pointer (some ⟨p, 0, none⟩)] 0)).n _ := hf.keep (b := (h.push (AObj.cells [Value.pointer (some ⟨p, 0, none⟩)] 0)).n) HGet.new (by simp) (by simp; omega)
    refine stp ?_
    refine ⟨Fr.set (hf0.trans' hf) fun hlt => by simp at hlt; omega, ⟨rfl, hl⟩, hp'.keep (S := fun i => i = (h.push (AObj.cells [Value.pointer (some ⟨p, 0, none⟩)] 0)).n) (Fr.refl.set fun _ => rfl) (by simp; omega) fun i hi hn => ?_⟩
    have := h2.own.lt hi
    simp at hn; omega
  · refine O.call' (readsH_bad (h2.none Fr.refl.push.push) he) (fun r h' hq => ?_)
    obtain ⟨rfl, hf⟩ := hq
    haveI : HGet h' (h.push (AObj.cells [Value.pointer (some ⟨p, 0, none⟩)] 0)).n _ := hf.keep (b := (h.push (AObj.cells [Value.pointer (some ⟨p, 0, none⟩)] 0)).n) HGet.new (by simp) id
    refine stp ?_
    refine rd_bad he (Fr.set (hf0.trans' (hf.mono fun _ _ h => h.elim)) fun hlt => by simp at hlt; omega) ⟨rfl, rfl⟩ (((hp.none Fr.refl.push.push).none hf).keep (S := fun i => i = (h.push (AObj.cells [Value.pointer (some ⟨p, 0, none⟩)] 0)).n) (Fr.refl.set fun _ => rfl) (by simp; omega) fun i hi hn => ?_)
    have := h2.own.lt hi
    simp at hn; omega
end Go.Proofs.Ytagmnpeilgnbdaa.A

namespace Go.Proofs.Ytagmnpeilgnbdaa.A
open Go Go.Vm
set_option maxRecDepth 10000
set_option linter.unusedVariables false
abbrev z4 : List Value := [.int .u8 0, .int .u8 0, .int .u8 0, .int .u8 0]
abbrev zb4 : List UInt8 := [0, 0, 0, 0]
abbrev k4 (a b c d : UInt8) : List Value := [.int .u8 a.toNat, .int .u8 b.toNat, .int .u8 c.toNat, .int .u8 d.toNat]
theorem bcells4 (a b c d : UInt8) : bcells [a, b, c, d] = [.int .u8 a.toNat, .int .u8 b.toNat, .int .u8 c.toNat, .int .u8 d.toNat] := rfl
theorem Key11_ok {h : Heap} {v : Value} {l : List UInt8} (hr : Rd h 1 v (bcells l) l.length) (hl : l.length = 4) :
    Runs Try.prog T0 (.fn fn_zcdQ) [v] h (fun r h' => r = .agg ⟨bcells l⟩ ∧ Fr (fun _ => False) h h') (fun _ _ => False) := by
  obtain ⟨a, cap, rfl, hlen, hc⟩ := hr
  obtain ⟨b, o, sp, rfl, hb, hcc⟩ := hc (by omega)
  rw [Nat.mul_one, hl] at hcc
  obtain ⟨a1, a2, a3, a4, rfl⟩ := four hl
  rw [bcells4] at hcc ⊢
  refine zcdQ_runs ?_
  refine stp ?_
  refine O.how (XOp.mkArrayAt (by omega)) ?_
  haveI : Cells (h.push (.cells z4 0)) b o 4 [.int .u8 a1.toNat, .int .u8 a2.toNat, .int .u8 a3.toNat, .int .u8 a4.toNat] := ⟨by rw [cellsAt_keep (S := fun _ => False) Fr.refl.push hb id]; exact hcc⟩
  refine stp ?_
  exact ⟨rfl, Fr.refl.push⟩
theorem takeK_ok {h : Heap} {p : Nat} {sv : Value} {bs : List UInt8} {pl : Nat} {fa a0 : Int} (hr : PR h p sv bs pl 0 fa) :
    Runs Try.prog T0 (.fn fn_zydQ) [.pointer (some ⟨p, 0, none⟩), .int .i64 4, .int .i64 a0, .func (.func fn_zcdQ) ⟨[]⟩ ⟨[]⟩] h
      (fun r h' => pl + 4 ≤ bs.length ∧ r = .agg ⟨bcells ((bs.drop pl).take 4)⟩ ∧ PR h' p sv bs (pl + 4) 0 fa ∧ Fr (fun i => i = p) h h')
      (fun c h' => bs.length < pl + 4 ∧ c = thrown 6 a0 ∧ PR h' p sv bs pl 0 fa ∧ Fr (fun i => i = p) h h') := by
  have hr' := hr.none (Fr.refl.push (o := .cells z4 0))
  have hr0 := hr
  obtain ⟨hle, hsm, hp, hget, hown, hnot⟩ := hr
  obtain ⟨a, cap, rfl, hlen, _⟩ := hown.rd
  haveI : HGet h p _ := ⟨hget⟩
  haveI : BLt p h := ⟨hp⟩
  refine zydQ_runs ?_
  refine stp ?_
  refine D.callX must_ok (fun v h' hv => rfl) (fun v h' hv => ?_) (fun c h' hx => ⟨rfl, ?_⟩)
  · obtain ⟨hle2, rfl⟩ := hv
    have hle2 := of_decide_eq_true hle2
    refine stp ?_
    have hp2 := hr'.turn (pl' := pl + 4) (e' := 0) (fa' := fa) (by omega)
    refine D.slice pl (pl + 4) (by omega) hp2.own (by omega) (by omega) (by omega) (by omega) (fun v' hbl hrd => ?_)
    rw [Nat.mul_one, Nat.mul_one, bcells_drop, bcells_take, Nat.add_sub_cancel_left] at hrd
    have hl : ((bs.drop pl).take 4).length = 4 := by rw [List.length_take, List.length_drop]; omega
    have hf0 : Fr (fun i => i = p) h ((h.push (.cells z4 0)).set p (.cells [.slice a bs.length cap, .int .i64 ↑(pl + 4), .int .i64 0, .int .i64 fa, .bool true] 0)) := Fr.refl.push.set fun _ => rfl
    generalize hL : (bs.drop pl).take 4 = L at hl hrd ⊢
    refine D.callX (Key11_ok (l := L) (by rw [hl]; exact hrd) hl) (fun _ _ _ => rfl) (fun r h2 hr => ?_) (fun _ _ hx => hx.elim)
    obtain ⟨rfl, hf⟩ := hr
    obtain ⟨a1, a2, a3, a4, rfl⟩ := four hl
    rw [bcells4]
    haveI : HGet h2 h.n _ := hf.keep (b := h.n) (HGet.set (k := ⟨by omega⟩) (g := HGet.new)) (by simp) id
    refine stp ?_
    refine ⟨by omega, rfl, (hp2.none hf).keep (S := fun i => i = h.n) (Fr.refl.set fun _ => rfl) (by omega) fun i hi hn => ?_, ?_⟩
    · have := hown.lt hi
      omega
    · refine Fr.set (Fr.trans (S := fun i => i = p) (S' := fun _ => False) hf0 hf fun _ _ h => h.elim) fun hlt => ?_
      omega
  · obtain ⟨hlt, rfl, rfl⟩ := hx
    have hlt := of_decide_eq_false hlt
    refine stp ?_
    exact ⟨by omega, rfl, hr', Fr.refl.push⟩
theorem Key1_ok {h : Heap} {p a : Nat} {sv : Value} {bs : List UInt8} {pl : Nat} (hr : PR h p sv bs pl 0 0) [ha : HGet h a (.cells [.pointer (some ⟨p, 0, none⟩)] 0)] (ha' : a < h.n) :
    Runs Try.prog T0 (.fn fn_zbdQ) [.int .i64 pl, .pointer (some ⟨a, 0, none⟩)] h
      (fun r h' => ∃ l pl', partS 4 bs pl = .ok (l, pl') ∧ (r = .agg ⟨bcells l⟩ ∧ l.length = 4) ∧ PR h' p sv bs pl' 0 0 ∧ Fr (fun i => i = p) h h')
      (fun c h' => ∃ e pl', partS 4 bs pl = .error e ∧ e ≠ 0 ∧ c = thrown e pl ∧ PR h' p sv bs pl' 0 0 ∧ Fr (fun i => i = p) h h') := by
  have hp := hr.lt
  have hr' := hr.none (Fr.refl.push (o := .cells z4 0))
  haveI : BLt a h := ⟨ha'⟩
  refine zbdQ_runs ?_
  refine stp ?_
  refine O.callX (takeK_ok hr') (fun r h1 hr1 => ?_) (fun c h1 hx => ?_)
  · obtain ⟨hle, rfl, hp1, hf1⟩ := hr1
    have hl : ((bs.drop pl).take 4).length = 4 := by rw [List.length_take, List.length_drop]; omega
    generalize hL : (bs.drop pl).take 4 = L at hl ⊢
    obtain ⟨a1, a2, a3, a4, rfl⟩ := four hl
    rw [bcells4]
    haveI : HGet h1 h.n _ := hf1.keep (b := h.n) HGet.new (by simp) (by omega)
    refine stp ?_
    refine ⟨[a1, a2, a3, a4], pl + 4, by unfold partS; rw [if_neg (by omega), hL], ⟨rfl, rfl⟩, hp1.keep (S := fun i => i = h.n) (Fr.refl.set fun _ => rfl) (by omega) fun i hi hn => ?_, ?_⟩
    · have := hr.own.lt hi
      omega
    · exact Fr.set (Fr.trans (S := fun i => i = p) Fr.refl.push hf1 fun _ _ h => h) fun hlt => by omega
  · obtain ⟨hlt, rfl, hp1, hf1⟩ := hx
    refine stp ?_
    exact ⟨6, pl, by unfold partS; rw [if_pos (by omega)], by omega, rfl, hp1, Fr.trans (S := fun i => i = p) Fr.refl.push hf1 fun _ _ h => h⟩
theorem readsK_ok {h : Heap} {p : Nat} {sv : Value} {bs : List UInt8} {pl : Nat} {fid : FuncId} {first captured : List Value} {S : Nat → Except Int (List UInt8 × Nat)} (hr : PR h p sv bs pl 0 0)
    (hm : Runs Try.prog T0 (.fn fid) (first ++ [.int .i64 pl] ++ captured) (h.push (.cells z4 0)) (fun r h' => ∃ l pl', S pl = .ok (l, pl') ∧ (r = .agg ⟨bcells l⟩ ∧ l.length = 4) ∧ PR h' p sv bs pl' 0 0 ∧ Fr (fun i => i = p) (h.push (.cells z4 0)) h')
      (fun c h' => ∃ e pl', S pl = .error e ∧ e ≠ 0 ∧ c = thrown e pl ∧ PR h' p sv bs pl' 0 0 ∧ Fr (fun i => i = p) (h.push (.cells z4 0)) h')) :
    Runs Try.prog T0 (.fn fn_zudQ) [.pointer (some ⟨p, 0, none⟩), .func (.func fid) ⟨first⟩ ⟨captured⟩] h (Reads h p sv bs (rd S zb4 ⟨pl, 0, 0⟩) fun l r h' => r = .agg ⟨bcells l⟩ ∧ l.length = 4) (fun _ _ => False) := by
  haveI : HGet h p _ := ⟨hr.get⟩
  haveI : BLt p h := ⟨hr.lt⟩
  have hp := hr.lt
  refine zudQ_runs ?_
  refine stp ?_
  refine O.callX hm (fun r h1 hr1 => ?_) (fun c h1 hx => ?_)
  · obtain ⟨l, pl', hS, ⟨rfl, hl⟩, hp1, hf⟩ := hr1
    obtain ⟨a1, a2, a3, a4, rfl⟩ := four hl
    rw [bcells4]
    haveI : HGet h1 h.n _ := hf.keep (b := h.n) HGet.new (by simp) (by omega)
    refine stp ?_
    refine caught_none.mono (fun u' h' hu => ?_) (fun _ _ _ hx => hx.elim)
    obtain ⟨rfl, rfl⟩ := hu
    refine L.nil (rd_ok hS ?_ ⟨rfl, rfl⟩ (hp1.keep (S := fun i => i = h.n) (Fr.refl.set fun _ => rfl) (by omega) fun i hi hn => ?_))
    · exact Fr.set (Fr.trans (S := fun i => i = p) Fr.refl.push hf fun _ _ h => h) fun hlt => by omega
    · have := hr.own.lt hi
      omega
  · obtain ⟨e, pl', hS, he, rfl, hp1, hf⟩ := hx
    refine stp ?_
    refine (caught_ok hp1).mono (fun u' h' hu => ?_) (fun _ _ _ hx => hx.elim)
    obtain ⟨hs, hp2, hf2⟩ := hu
    rw [hs]
    haveI : HGet h' h.n _ := (hf.trans' hf2).keep (b := h.n) HGet.new (by simp) (by omega)
    exact L.nil (rd_err hS he (Fr.trans (S := fun i => i = p) Fr.refl.push (hf.trans' hf2) fun _ _ h => h) ⟨rfl, rfl⟩ hp2)
theorem readsK_bad {h : Heap} {p : Nat} {sv : Value} {bs : List UInt8} {pl : Nat} {e fa : Int} {f : Value} (hr : PR h p sv bs pl e fa) (he : e ≠ 0) :
    Runs Try.prog T0 (.fn fn_zudQ) [.pointer (some ⟨p, 0, none⟩), f] h (fun r h' => r = .agg ⟨z4⟩ ∧ Fr (fun _ => False) h h') (fun _ _ => False) := by
  haveI : HGet h p _ := ⟨hr.get⟩
  haveI : BLt p h := ⟨hr.lt⟩
  refine zudQ_runs ?_
  refine stp ?_
  refine C.ifB (fun h1 => ?_) (fun h1 => ?_)
  · refine stp ?_
    exact ⟨rfl, Fr.refl.push⟩
  · exfalso; simp at h1; exact he h1
theorem Key_run {h : Heap} {p : Nat} {sv : Value} {bs : List UInt8} {st : RSt} (hp : PRs h p sv bs st) :
    Runs Try.prog T0 (.fn fn_zadQ) [.pointer (some ⟨p, 0, none⟩)] h (Reads h p sv bs (rd (partS 4 bs) zb4 st) fun l r _ => r = .agg ⟨bcells l⟩ ∧ l.length = 4) (fun _ _ => False) := by
  obtain ⟨st1, e, fa⟩ := st
  obtain ⟨pl, h1, h2⟩ := hp.ex
  have hlt := h2.lt
  refine zadQ_runs ?_
  refine stp ?_
  have hf0 : Fr (fun i => i = p) h ((h.push (AObj.cells [Value.pointer (some ⟨p, 0, none⟩)] 0)).push (AObj.cells z4 0)) := Fr.refl.push.push
  by_cases he : e = 0
  · subst he
    obtain ⟨rfl, h3⟩ := h1 rfl
    have h3 : fa = 0 := h3
    subst h3
    refine O.call' (readsK_ok (S := partS 4 bs) (h2.none Fr.refl.push.push) (Key1_ok (h2.none Fr.refl.push.push.push) (by simp; omega))) (fun r h' hq => ?_)
    obtain ⟨hf, ⟨rfl, hl⟩, hp'⟩ := hq
    generalize (rd (partS 4 bs) zb4 ⟨pl, 0, 0⟩) = q at *
    obtain ⟨L, st2⟩ := q
    simp only at hl hp' ⊢
    obtain ⟨a1, a2, a3, a4, rfl⟩ := four hl
    rw [bcells4]
    haveI : HGet h' (h.push (AObj.cells [Value.pointer (some ⟨p, 0, none⟩)] 0)).n _ := hf.keep (b := (h.push (AObj.cells [Value.pointer (some ⟨p, 0, none⟩)] 0)).n) HGet.new (by simp) (by simp; omega)
    refine stp ?_
    refine ⟨Fr.set (hf0.trans' hf) fun hlt => by simp at hlt; omega, ⟨rfl, rfl⟩, hp'.keep (S := fun i => i = (h.push (AObj.cells [Value.pointer (some ⟨p, 0, none⟩)] 0)).n) (Fr.refl.set fun _ => rfl) (by simp; omega) fun i hi hn => ?_⟩
    have := h2.own.lt hi
    simp at hn; omega
  · refine O.call' (readsK_bad (h2.none Fr.refl.push.push) he) (fun r h' hq => ?_)
    obtain ⟨rfl, hf⟩ := hq
    haveI : HGet h' (h.push (AObj.cells [Value.pointer (some ⟨p, 0, none⟩)] 0)).n _ := hf.keep (b := (h.push (AObj.cells [Value.pointer (some ⟨p, 0, none⟩)] 0)).n) HGet.new (by simp) id
    refine stp ?_
    refine rd_bad he (Fr.set (hf0.trans' (hf.mono fun _ _ h => h.elim)) fun hlt => by simp at hlt; omega) ⟨rfl, rfl⟩ (((hp.none Fr.refl.push.push).none hf).keep (S := fun i => i = (h.push (AObj.cells [Value.pointer (some ⟨p, 0, none⟩)] 0)).n) (Fr.refl.set fun _ => rfl) (by simp; omega) fun i hi hn => ?_)
    have := h2.own.lt hi
    simp at hn; omega
end Go.Proofs.Ytagmnpeilgnbdaa.A

namespace Go.Proofs.Ytagmnpeilgnbdaa.A
open Go Go.Vm
set_option maxRecDepth 10000
set_option linter.unusedVariables false
def wordS (bs : List UInt8) (pl : Nat) : Except Int (Nat × Nat) := if bs.length < pl + 8 then .error 6 else .ok (bigN ((bs.drop pl).take 8), pl + 8)
theorem Word1_ok {h : Heap} {p a : Nat} {sv : Value} {bs : List UInt8} {pl : Nat} (hr : PR h p sv bs pl 0 0) [ha : HGet h a (.cells [.pointer (some ⟨p, 0, none⟩)] 0)] :
    Runs Try.prog T0 (.fn fn_zgdQ) [.int .i64 pl, .pointer (some ⟨a, 0, none⟩)] h
      (fun r h' => ∃ n pl', wordS bs pl = .ok (n, pl') ∧ r = .int .u64 (n : Nat) ∧ PR h' p sv bs pl' 0 0 ∧ Fr (fun i => i = p) h h')
      (fun c h' => ∃ e pl', wordS bs pl = .error e ∧ e ≠ 0 ∧ c = thrown e pl ∧ PR h' p sv bs pl' 0 0 ∧ Fr (fun i => i = p) h h') := by
  have hsm := hr.small
  refine zgdQ_runs ?_
  refine stp ?_
  refine O.callX (takeU64_ok (n := 8) (R := fun r h2 => r = .int .u64 (bigN ((bs.drop pl).take 8)) ∧ pl + 8 ≤ bs.length ∧ PR h2 p sv bs (pl + 8) 0 0 ∧ Fr (fun i => i = p) h h2) hr (by omega) (fun h1 v hf hp1 hle hbl hrd => ?_)) (fun r h1 hr1 => ?_) (fun c h1 hx => ?_)
  · have hl : ((bs.drop pl).take 8).length = 8 := by rw [List.length_take, List.length_drop]; omega
    refine (big_ok (l := (bs.drop pl).take 8) (by rw [hl]; exact hrd) (by omega)).imp fun r h2 hr2 => ?_
    obtain ⟨rfl, rfl⟩ := hr2
    exact ⟨rfl, hle, hp1, hf⟩
  · obtain ⟨rfl, hle, hp1, hf⟩ := hr1
    refine stp ?_
    exact ⟨_, pl + 8, by unfold wordS; rw [if_neg (by omega)], rfl, hp1, hf⟩
  · obtain ⟨hlt, rfl, rfl⟩ := hx
    refine stp ?_
    exact ⟨6, pl, by unfold wordS; rw [if_pos (by omega)], by omega, rfl, hr, Fr.refl⟩
theorem readsW_ok {h : Heap} {p : Nat} {sv : Value} {bs : List UInt8} {pl : Nat} {fid : FuncId} {first captured : List Value} {S : Nat → Except Int (Nat × Nat)} (hr : PR h p sv bs pl 0 0)
    (hm : Runs Try.prog T0 (.fn fid) (first ++ [.int .i64 pl] ++ captured) h (fun r h' => ∃ n pl', S pl = .ok (n, pl') ∧ r = .int .u64 (n : Nat) ∧ PR h' p sv bs pl' 0 0 ∧ Fr (fun i => i = p) h h')
      (fun c h' => ∃ e pl', S pl = .error e ∧ e ≠ 0 ∧ c = thrown e pl ∧ PR h' p sv bs pl' 0 0 ∧ Fr (fun i => i = p) h h')) :
    Runs Try.prog T0 (.fn fn_zwdQ) [.pointer (some ⟨p, 0, none⟩), .func (.func fid) ⟨first⟩ ⟨captured⟩] h (Reads h p sv bs (rd S 0 ⟨pl, 0, 0⟩) fun n r _ => r = .int .u64 (n : Nat)) (fun _ _ => False) := by
  haveI : HGet h p _ := ⟨hr.get⟩
  haveI : BLt p h := ⟨hr.lt⟩
  refine zwdQ_runs ?_
  refine stp ?_
  refine O.callX hm (fun r h1 hr1 => ?_) (fun c h1 hx => ?_)
  · obtain ⟨n, pl', hS, rfl, hp1, hf⟩ := hr1
    refine stp ?_
    refine caught_none.mono (fun u' h' hu => ?_) (fun _ _ _ hx => hx.elim)
    obtain ⟨rfl, rfl⟩ := hu
    exact L.nil (rd_ok hS hf rfl hp1)
  · obtain ⟨e, pl', hS, he, rfl, hp1, hf⟩ := hx
    refine stp ?_
    refine (caught_ok hp1).mono (fun u' h' hu => ?_) (fun _ _ _ hx => hx.elim)
    obtain ⟨hs, hp2, hf2⟩ := hu
    rw [hs]
    exact L.nil (rd_err hS he (hf.trans' hf2) rfl hp2)
theorem readsW_bad {h : Heap} {p : Nat} {sv : Value} {bs : List UInt8} {pl : Nat} {e fa : Int} {f : Value} (hr : PR h p sv bs pl e fa) (he : e ≠ 0) :
    Runs Try.prog T0 (.fn fn_zwdQ) [.pointer (some ⟨p, 0, none⟩), f] h (fun r h' => r = .int .u64 0 ∧ h' = h) (fun _ _ => False) := by
  haveI : HGet h p _ := ⟨hr.get⟩
  haveI : BLt p h := ⟨hr.lt⟩
  refine zwdQ_runs ?_
  refine stp ?_
  refine C.ifB (fun h1 => ?_) (fun h1 => ?_)
  · refine stp ?_
    exact ⟨rfl, rfl⟩
  · exfalso; simp at h1; exact he h1
theorem Word_run {h : Heap} {p : Nat} {sv : Value} {bs : List UInt8} {st : RSt} (hp : PRs h p sv bs st) :
    Runs Try.prog T0 (.fn fn_zfdQ) [.pointer (some ⟨p, 0, none⟩)] h (Reads h p sv bs (rd (wordS bs) 0 st) fun n r _ => r = .int .u64 (n : Nat)) (fun _ _ => False) := by
  obtain ⟨st1, e, fa⟩ := st
  obtain ⟨pl, h1, h2⟩ := hp.ex
  have hlt := h2.lt
  refine zfdQ_runs ?_
  refine stp ?_
  have hf0 : Fr (fun i => i = p) h (h.push (AObj.cells [Value.pointer (some ⟨p, 0, none⟩)] 0)) := Fr.refl.push
  by_cases he : e = 0
  · subst he
    obtain ⟨rfl, h3⟩ := h1 rfl
    have h3 : fa = 0 := h3
    subst h3
    refine O.call' (readsW_ok (S := wordS bs) (h2.none Fr.refl.push) (Word1_ok (h2.none Fr.refl.push))) (fun r h' hq => ?_)
    refine stp ?_
    exact ⟨hf0.trans' hq.1, hq.2.1, hq.2.2⟩
  · refine O.call' (readsW_bad (h2.none Fr.refl.push) he) (fun r h' hq => ?_)
    obtain ⟨rfl, rfl⟩ := hq
    refine stp ?_
    exact rd_bad he hf0 rfl (hp.none Fr.refl.push)
def restS (bs : List UInt8) (st : RSt) : Int := if st.e = 0 then (bs.length : Int) - st.pl else 0
theorem Rest_run {h : Heap} {p : Nat} {sv : Value} {bs : List UInt8} {st : RSt} (hp : PRs h p sv bs st) :
    Runs Try.prog T0 (.fn fn_zedQ) [.pointer (some ⟨p, 0, none⟩)] h (fun r h' => r = .int .i64 (restS bs st) ∧ h' = h) (fun _ _ => False) := by
  obtain ⟨pl, h1, hr⟩ := hp.ex
  have hsm := hr.small
  have hle := hr.at_le
  obtain ⟨a, cap, rfl, hlen, _⟩ := hr.own.rd
  haveI : HGet h p _ := ⟨hr.get⟩
  haveI : BLt p h := ⟨hr.lt⟩
  refine zedQ_runs ?_
  refine stp ?_
  refine C.ifN (fun he => ?_) (fun he => ?_)
  · refine stp ?_
    unfold restS
    rw [if_neg he]
    exact ⟨rfl, rfl⟩
  · refine stp ?_
    unfold restS
    rw [if_pos he, ← (h1 he).1]
    exact ⟨rfl, rfl⟩
end Go.Proofs.Ytagmnpeilgnbdaa.A

namespace Go.Proofs.Ytagmnpeilgnbdaa.A
open Go Go.Vm
set_option maxRecDepth 10000
set_option linter.unusedVariables false
end Go.Proofs.Ytagmnpeilgnbdaa.A

namespace Go.Proofs.Ytagmnpeilgnbdaa.A
open Go Go.Vm
set_option maxRecDepth 10000
set_option linter.unusedVariables false
theorem bigN_beN : ∀ (n : Nat), bigN (beN n) = n := by
  intro n
  induction n using Nat.strongRecOn with
  | _ n ih =>
    by_cases h : n = 0
    · subst h; rw [beN_zero]; rfl
    · rw [beN_pos h, bigN_snoc, ih (n / 256) (by omega), u8nat (Nat.mod_lt _ (by omega))]
      omega
theorem beN_head : ∀ (n : Nat), n ≠ 0 → ((beN n).getD 0 0).toNat ≠ 0 := by
  intro n
  induction n using Nat.strongRecOn with
  | _ n ih =>
    intro h
    rw [beN_pos h]
    by_cases h2 : n / 256 = 0
    · rw [h2, beN_zero]
      simp only [List.nil_append, List.getD_cons_zero]
      rw [u8nat (Nat.mod_lt _ (by omega))]
      omega
    · have h3 := ih (n / 256) (by omega) h2
      have hl : (beN (n / 256)) ≠ [] := by rw [beN_pos h2]; simp
      cases hb : beN (n / 256) with
      | nil => exact absurd hb hl
      | cons a l => rw [hb] at h3; simpa using h3
theorem bigN_pos {d : List UInt8} (h : (d.getD 0 0).toNat ≠ 0) : bigN d ≠ 0 := by
  have key : ∀ (l : List UInt8) (n : Nat), n ≠ 0 → l.foldl (fun n b => n * 256 + b.toNat) n ≠ 0 := by
    intro l
    induction l with
    | nil => intro n h; exact h
    | cons b l ih =>
      intro n h
      show l.foldl (fun n b => n * 256 + b.toNat) (n * 256 + b.toNat) ≠ 0
      exact ih _ (by omega)
  cases d with
  | nil => simp at h
  | cons a l =>
    show (a :: l).foldl (fun n b => n * 256 + b.toNat) 0 ≠ 0
    exact key l _ (by simpa using h)
theorem beN_bigN : ∀ (k : Nat) (d : List UInt8), d.length = k → (0 < d.length → (d.getD 0 0).toNat ≠ 0) → beN (bigN d) = d := by
  intro k
  induction k with
  | zero =>
    intro d hd _
    have : d = [] := List.length_eq_zero_iff.1 hd
    subst this
    exact beN_zero
  | succ k ih =>
    intro d hd h
    obtain ⟨l, b, rfl⟩ : ∃ l b, d = l ++ [b] := ⟨d.dropLast, d.getLast (by intro h; rw [h] at hd; simp at hd), (List.dropLast_concat_getLast _).symm⟩
    have hb := b.toNat_lt
    have hlen : l.length = k := by simpa using hd
    have hl : 0 < l.length → (l.getD 0 0).toNat ≠ 0 := fun hp => by
      cases l with
      | nil => simp at hp
      | cons a l => simpa using h (by simp)
    have h0 := bigN_pos (h (by simp))
    rw [bigN_snoc] at h0 ⊢
    rw [beN_pos h0]
    have e1 : (bigN l * 256 + b.toNat) / 256 = bigN l := by omega
    have e2 : (bigN l * 256 + b.toNat) % 256 = b.toNat := by omega
    rw [e1, e2, ih l hlen hl]
    congr 2
    exact UInt8.toNat_inj.1 (u8nat (by omega))
theorem drop_split {l : List UInt8} {pl k : Nat} (h : pl + k ≤ l.length) : l.drop pl = (l.drop pl).take k ++ l.drop (pl + k) := by
  rw [← List.drop_drop, List.take_append_drop]
theorem drop_one {l : List UInt8} {pl : Nat} (h : pl < l.length) : l.drop pl = l.getD pl 0 :: l.drop (pl + 1) := by
  rw [List.drop_eq_getElem_cons h]
  simp [List.getD_eq_getElem?_getD, List.getElem?_eq_getElem h]
theorem numS_form {bs : List UInt8} {pl n pl' : Nat} (h : numS bs pl = .ok (n, pl')) : bs.drop pl = numF n ++ bs.drop pl' := by
  have hb := (bs.getD pl 0).toNat_lt
  unfold numS at h
  split at h
  · cases h
  · split at h
    · cases h
    · split at h
      · cases h
      · split at h
        · cases h
        · rename_i h1 h2 h3 h4
          cases h
          have hd : ((bs.drop (pl + 1)).take (bs.getD pl 0).toNat).length = (bs.getD pl 0).toNat := by rw [List.length_take, List.length_drop]; omega
          rw [drop_one (by omega)]
          unfold numF
          rw [beN_bigN _ _ hd fun hp h0 => h4 (.inl ⟨by omega, h0⟩), hd]
          rw [show UInt8.ofNat (bs.getD pl 0).toNat = bs.getD pl 0 from UInt8.toNat_inj.1 (u8nat (by omega))]
          rw [List.cons_append, ← drop_split (by omega)]
theorem getD_at {a b : List UInt8} {x : UInt8} : (a ++ x :: b).getD a.length 0 = x := by simp [List.getD_eq_getElem?_getD]
theorem numS_back {a b : List UInt8} {n : Nat} (hn : n ≤ 9223372036854775807) : numS (a ++ (numF n ++ b)) a.length = .ok (n, a.length + (numF n).length) := by
  have h8 := beN_len 8 n (by omega)
  unfold numF
  have hg : (a ++ (UInt8.ofNat (beN n).length :: beN n ++ b)).getD a.length 0 = UInt8.ofNat (beN n).length := by rw [List.cons_append]; exact getD_at
  have hk : (UInt8.ofNat (beN n).length).toNat = (beN n).length := u8nat (by omega)
  have hd : ((a ++ (UInt8.ofNat (beN n).length :: beN n ++ b)).drop (a.length + 1)).take (beN n).length = beN n := by
    rw [← List.drop_drop, List.drop_left]
    simp
  unfold numS
  rw [hg, hk, hd, bigN_beN]
  simp only [List.length_append, List.length_cons]
  rw [if_neg (by omega), if_neg (by omega), if_neg (by omega), if_neg]
  · congr 2; omega
  · rintro (⟨h1, h2⟩ | h)
    · refine beN_head n (fun h0 => ?_) h2
      subst h0
      rw [beN_zero] at h1
      simp at h1
    · omega
theorem partS_form {bs l : List UInt8} {k pl pl' : Nat} (h : partS k bs pl = .ok (l, pl')) : l.length = k ∧ bs.drop pl = l ++ bs.drop pl' ∧ pl' ≤ bs.length := by
  unfold partS at h
  split at h
  · cases h
  · cases h
    exact ⟨by rw [List.length_take, List.length_drop]; omega, drop_split (by omega), by omega⟩
theorem partS_back {a b l : List UInt8} {k : Nat} (hl : l.length = k) : partS k (a ++ (l ++ b)) a.length = .ok (l, a.length + k) := by
  unfold partS
  simp only [List.length_append]
  rw [if_neg (by omega), List.drop_left]
  congr 2
  rw [← hl, List.take_left]
def Ends (bs : List UInt8) {α : Type} (S : Nat → Except Int (α × Nat)) : Prop := (∀ pl a pl', S pl = .ok (a, pl') → pl' ≤ bs.length) ∧ ∀ pl e, S pl = .error e → e = 4 ∨ e = 5 ∨ e = 6
theorem numS_ends {bs : List UInt8} : Ends bs (numS bs) := ⟨fun pl a pl' h => (numS_ok h).2.1, fun pl e h => .inr (numS_err h)⟩
theorem partS_ends {bs : List UInt8} {k : Nat} : Ends bs (partS k bs) := ⟨fun pl a pl' h => (partS_form h).2.2, fun pl e h => by
  unfold partS at h
  split at h
  · cases h; exact .inr (.inr rfl)
  · cases h⟩
structure RSt.ok (bs : List UInt8) (st : RSt) : Prop where
  pl : st.e = 0 → st.pl ≤ bs.length ∧ st.fa = 0
  fa : 0 ≤ st.fa ∧ st.fa ≤ bs.length
theorem rd_st {α : Type} {bs : List UInt8} {S : Nat → Except Int (α × Nat)} {zero : α} {st : RSt} (hE : Ends bs S) (hs : st.ok bs) : (rd S zero st).2.ok bs := by
  unfold rd
  split
  · rename_i he
    cases hS : S st.pl with
    | ok x => exact ⟨fun _ => ⟨hE.1 _ _ _ hS, rfl⟩, by simp⟩
    | error e => exact ⟨fun h0 => by have := hE.2 _ _ hS; have h0 : e = 0 := h0; omega, by have := (hs.pl he).1; simp only; omega⟩
  · exact hs
theorem rd_good {α : Type} {bs : List UInt8} {S : Nat → Except Int (α × Nat)} {zero : α} {st : RSt} (hE : Ends bs S) (h : (rd S zero st).2.e = 0) : st.e = 0 ∧ S st.pl = .ok ((rd S zero st).1, (rd S zero st).2.pl) := by
  unfold rd at h ⊢
  split at h
  · rename_i he
    rw [if_pos he]
    cases hS : S st.pl with
    | ok x => exact ⟨he, rfl⟩
    | error e =>
      rw [hS] at h
      have := hE.2 _ _ hS
      have h : e = 0 := h
      omega
  · rename_i he
    exact absurd h he
theorem rd_step {α : Type} {S : Nat → Except Int (α × Nat)} {zero a : α} {pl pl' : Nat} (h : S pl = .ok (a, pl')) : rd S zero ⟨pl, 0, 0⟩ = (a, ⟨pl', 0, 0⟩) := by
  unfold rd
  rw [if_pos rfl]
  simp only [h]
end Go.Proofs.Ytagmnpeilgnbdaa.A

namespace Go.Proofs.Ytagmnpeilgnbdaa.A
open Go Go.Vm
set_option maxRecDepth 10000
set_option linter.unusedVariables false
theorem st0_ok (bs : List UInt8) : RSt.ok bs ⟨0, 0, 0⟩ := ⟨fun _ => ⟨by simp, rfl⟩, by simp⟩
theorem endS_within {bs : List UInt8} {st : RSt} (h : st.ok bs) : 0 ≤ (endS bs st).2 ∧ (endS bs st).2 ≤ bs.length := by
  unfold endS
  split
  · rename_i hc
    simp only
    omega
  · exact h.fa
theorem endS_zero {bs : List UInt8} {st : RSt} (h : st.ok bs) (h0 : (endS bs st).1 = 0) : endS bs st = (0, 0) := by
  unfold endS at h0 ⊢
  split at h0
  · cases h0
  · rename_i hc
    rw [if_neg hc]
    have h0 : st.e = 0 := h0
    rw [h0, (h.pl h0).2]
end Go.Proofs.Ytagmnpeilgnbdaa.A

namespace Go.Proofs.Ytagmnpeilgnbdaa.A
open Go Go.Vm
set_option maxRecDepth 10000
set_option linter.unusedVariables false
theorem byteAt_nat (n k : Nat) : (byteAt n k).toNat = n / 2 ^ (8 * k) % 256 := u8nat (Nat.mod_lt _ (by omega))
theorem eight {d : List UInt8} (h : d.length = 8) : ∃ a b c e f g i j, d = [a, b, c, e, f, g, i, j] := by
  match d, h with
  | [a, b, c, e, f, g, i, j], _ => exact ⟨a, b, c, e, f, g, i, j, rfl⟩
theorem bigN8 (a b c e f g i j : UInt8) : bigN [a, b, c, e, f, g, i, j] = a.toNat * 72057594037927936 + b.toNat * 281474976710656 + c.toNat * 1099511627776 + e.toNat * 4294967296 + f.toNat * 16777216 + g.toNat * 65536 + i.toNat * 256 + j.toNat := by
  show ((((((((0 * 256 + a.toNat) * 256 + b.toNat) * 256 + c.toNat) * 256 + e.toNat) * 256 + f.toNat) * 256 + g.toNat) * 256 + i.toNat) * 256 + j.toNat) = _
  omega
theorem bigN_word8 {n : Nat} (h : n < 18446744073709551616) : bigN (word8 n) = n := by
  unfold word8
  rw [bigN8, byteAt_nat, byteAt_nat, byteAt_nat, byteAt_nat, byteAt_nat, byteAt_nat, byteAt_nat, byteAt_nat]
  simp only [show 2 ^ (8 * 7) = 72057594037927936 from rfl, show 2 ^ (8 * 6) = 281474976710656 from rfl, show 2 ^ (8 * 5) = 1099511627776 from rfl, show 2 ^ (8 * 4) = 4294967296 from rfl, show 2 ^ (8 * 3) = 16777216 from rfl, show 2 ^ (8 * 2) = 65536 from rfl, show 2 ^ (8 * 1) = 256 from rfl, show 2 ^ (8 * 0) = 1 from rfl]
  omega
theorem word8_bigN {d : List UInt8} (h : d.length = 8) : word8 (bigN d) = d := by
  obtain ⟨a, b, c, e, f, g, i, j, rfl⟩ := eight h
  have ha := a.toNat_lt; have hb := b.toNat_lt; have hc := c.toNat_lt; have he := e.toNat_lt
  have hf := f.toNat_lt; have hg := g.toNat_lt; have hi := i.toNat_lt; have hj := j.toNat_lt
  have e7 : byteAt (bigN [a, b, c, e, f, g, i, j]) 7 = a := UInt8.toNat_inj.1 (by rw [byteAt_nat, bigN8, show 2 ^ (8 * 7) = 72057594037927936 from rfl]; omega)
  have e6 : byteAt (bigN [a, b, c, e, f, g, i, j]) 6 = b := UInt8.toNat_inj.1 (by rw [byteAt_nat, bigN8, show 2 ^ (8 * 6) = 281474976710656 from rfl]; omega)
  have e5 : byteAt (bigN [a, b, c, e, f, g, i, j]) 5 = c := UInt8.toNat_inj.1 (by rw [byteAt_nat, bigN8, show 2 ^ (8 * 5) = 1099511627776 from rfl]; omega)
  have e4 : byteAt (bigN [a, b, c, e, f, g, i, j]) 4 = e := UInt8.toNat_inj.1 (by rw [byteAt_nat, bigN8, show 2 ^ (8 * 4) = 4294967296 from rfl]; omega)
  have e3 : byteAt (bigN [a, b, c, e, f, g, i, j]) 3 = f := UInt8.toNat_inj.1 (by rw [byteAt_nat, bigN8, show 2 ^ (8 * 3) = 16777216 from rfl]; omega)
  have e2 : byteAt (bigN [a, b, c, e, f, g, i, j]) 2 = g := UInt8.toNat_inj.1 (by rw [byteAt_nat, bigN8, show 2 ^ (8 * 2) = 65536 from rfl]; omega)
  have e1 : byteAt (bigN [a, b, c, e, f, g, i, j]) 1 = i := UInt8.toNat_inj.1 (by rw [byteAt_nat, bigN8, show 2 ^ (8 * 1) = 256 from rfl]; omega)
  have e0 : byteAt (bigN [a, b, c, e, f, g, i, j]) 0 = j := UInt8.toNat_inj.1 (by rw [byteAt_nat, bigN8, show 2 ^ (8 * 0) = 1 from rfl]; omega)
  unfold word8
  rw [e7, e6, e5, e4, e3, e2, e1, e0]
theorem wordS_form {bs : List UInt8} {n pl pl' : Nat} (h : wordS bs pl = .ok (n, pl')) : bs.drop pl = word8 n ++ bs.drop pl' ∧ n < 18446744073709551616 ∧ pl' ≤ bs.length := by
  unfold wordS at h
  split at h
  · cases h
  · cases h
    have hl : ((bs.drop pl).take 8).length = 8 := by rw [List.length_take, List.length_drop]; omega
    rw [word8_bigN hl]
    have := bigN_lt ((bs.drop pl).take 8)
    rw [hl] at this
    exact ⟨drop_split (by omega), this, by omega⟩
theorem wordS_back {a b : List UInt8} {n : Nat} (h : n < 18446744073709551616) : wordS (a ++ (word8 n ++ b)) a.length = .ok (n, a.length + 8) := by
  unfold wordS
  simp only [List.length_append, word8_len]
  rw [if_neg (by omega), List.drop_left]
  congr 2
  rw [List.take_left' (word8_len n), bigN_word8 h]
theorem wordS_ends {bs : List UInt8} : Ends bs (wordS bs) := ⟨fun pl a pl' h => (wordS_form h).2.2, fun pl e h => by
  unfold wordS at h
  split at h
  · cases h; exact .inr (.inr rfl)
  · cases h⟩
end Go.Proofs.Ytagmnpeilgnbdaa.A

namespace Go.Proofs.Ytagmnpeilgnbdaa.A
open Go Go.Vm
set_option maxRecDepth 10000
set_option linter.unusedVariables false
def sgOf (k hs : List UInt8) (n : Nat) : Sg := if hh : hs.length = 32 then ⟨k.getD 0 0, k.getD 1 0, k.getD 2 0, k.getD 3 0, hs, n, hh⟩ else default
theorem sgOf_eq {s : Sg} (hp : 0 ≤ s.sg) : sgOf s.key s.hash s.sg.toNat = s := by
  unfold sgOf
  rw [dif_pos s.hl]
  have : ((s.sg.toNat : Nat) : Int) = s.sg := by omega
  cases s
  simp only at this
  simp [this]
theorem sgOf_key {k hs : List UInt8} {n : Nat} (h1 : k.length = 4) (h2 : hs.length = 32) : (sgOf k hs n).key = k := by
  obtain ⟨a, b, c, d, rfl⟩ := four h1
  unfold sgOf
  rw [dif_pos h2]
  rfl
theorem sgOf_hash {k hs : List UInt8} {n : Nat} (h2 : hs.length = 32) : (sgOf k hs n).hash = hs := by
  unfold sgOf
  rw [dif_pos h2]
theorem sgOf_sg {k hs : List UInt8} {n : Nat} (h2 : hs.length = 32) : (sgOf k hs n).sg = n := by
  unfold sgOf
  rw [dif_pos h2]
theorem sgOf_pos {k hs : List UInt8} {n : Nat} : 0 ≤ (sgOf k hs n).sg := by
  unfold sgOf
  split
  · simp
  · exact Int.le_refl _
theorem sgOf_cells {a b c d : UInt8} {hs : List UInt8} {n : Nat} (h2 : hs.length = 32) : (sgOf [a, b, c, d] hs n).cells = bcells [a, b, c, d] ++ (bcells hs ++ [.int .u64 (n : Int)]) := by
  unfold Sg.cells
  rw [sgOf_key rfl h2, sgOf_hash h2, sgOf_sg h2]
def sgR (bs : List UInt8) (st : RSt) : Sg := sgOf (rd (partS 4 bs) zb4 st).1 (rd (partS 32 bs) zb32 (rd (partS 4 bs) zb4 st).2).1 (rd (wordS bs) 0 (rd (partS 32 bs) zb32 (rd (partS 4 bs) zb4 st).2).2).1
def stR (bs : List UInt8) (st : RSt) : RSt := (rd (wordS bs) 0 (rd (partS 32 bs) zb32 (rd (partS 4 bs) zb4 st).2).2).2
def goG (bs : List UInt8) : Nat → List Sg → RSt → Except (Int × Int) (List Sg)
  | 0, L, st => if endS bs st = (0, 0) then .ok L else .error (endS bs st)
  | m + 1, L, st =>
    if (stR bs st).e ≠ 0 then .error ((stR bs st).e, (stR bs st).fa)
    else if L ≠ [] ∧ ltG (at' L (L.length - 1)) (sgR bs st) = false then .error (9, (st.pl : Int))
    else goG bs m (L ++ [sgR bs st]) (stR bs st)
def decG (bs : List UInt8) : Except (Int × Int) (List Sg) :=
  if 4096 < (rd (numS bs) 0 ⟨0, 0, 0⟩).1 then .error (4, 0) else goG bs (rd (numS bs) 0 ⟨0, 0, 0⟩).1 [] (rd (numS bs) 0 ⟨0, 0, 0⟩).2
theorem part_e {k : Nat} {bs : List UInt8} {z : List UInt8} {st : RSt} (h : st.e = 0 ∨ st.e = 6) : (rd (partS k bs) z st).2.e = 0 ∨ (rd (partS k bs) z st).2.e = 6 := by
  unfold rd partS
  split
  · split
    · exact .inl rfl
    · rename_i hS
      split at hS
      · cases hS; exact .inr rfl
      · cases hS
  · exact h
theorem word_e {bs : List UInt8} {z : Nat} {st : RSt} (h : st.e = 0 ∨ st.e = 6) : (rd (wordS bs) z st).2.e = 0 ∨ (rd (wordS bs) z st).2.e = 6 := by
  unfold rd wordS
  split
  · split
    · exact .inl rfl
    · rename_i hS
      split at hS
      · cases hS; exact .inr rfl
      · cases hS
  · exact h
theorem stR_e {bs : List UInt8} {st : RSt} (h : st.e = 0) : (stR bs st).e = 0 ∨ (stR bs st).e = 6 := word_e (part_e (part_e (.inl h)))
theorem stR_ok {bs : List UInt8} {st : RSt} (h : st.ok bs) : (stR bs st).ok bs := rd_st wordS_ends (rd_st partS_ends (rd_st partS_ends h))
theorem part_pl {k : Nat} {bs l : List UInt8} {pl pl' : Nat} (h : partS k bs pl = .ok (l, pl')) : pl' = pl + k ∧ pl + k ≤ bs.length := by
  unfold partS at h
  split at h
  · cases h
  · injection h with h
    have := (Prod.mk.inj h).2
    omega
theorem word_pl {bs : List UInt8} {n pl pl' : Nat} (h : wordS bs pl = .ok (n, pl')) : pl' = pl + 8 ∧ pl + 8 ≤ bs.length := by
  unfold wordS at h
  split at h
  · cases h
  · injection h with h
    have := (Prod.mk.inj h).2
    omega
theorem sgR_form {bs : List UInt8} {st : RSt} (h : (stR bs st).e = 0) : st.e = 0 ∧ bs.drop st.pl = encG1 (sgR bs st) ++ bs.drop (stR bs st).pl ∧ (stR bs st).pl = st.pl + 44 ∧ st.pl + 44 ≤ bs.length ∧ (sgR bs st).sg < 18446744073709551616 := by
  obtain ⟨h1, h2⟩ := rd_good wordS_ends h
  obtain ⟨h3, h4⟩ := rd_good partS_ends h1
  obtain ⟨h5, h6⟩ := rd_good partS_ends h3
  obtain ⟨f1, f2, f3⟩ := wordS_form h2
  obtain ⟨l2, g2, g3⟩ := partS_form h4
  obtain ⟨l3, g4, g5⟩ := partS_form h6
  refine ⟨h5, ?_, ?_, ?_, ?_⟩
  · rw [g4, g2, f1]
    unfold encG1 sgR stR
    rw [sgOf_key l3 l2, sgOf_hash l2, sgOf_sg l2]
    simp only [List.append_assoc, Int.toNat_natCast]
  · have e1 := word_pl h2
    have e2 := part_pl h4
    have e3 := part_pl h6
    unfold stR
    omega
  · have e1 := word_pl h2
    have e2 := part_pl h4
    have e3 := part_pl h6
    omega
  · unfold sgR
    rw [sgOf_sg l2]
    omega
theorem lastG {L : List Sg} {s : Sg} (hs : SrtG L) (h : ¬ (L ≠ [] ∧ ltG (at' L (L.length - 1)) s = false)) : SrtG (L ++ [s]) := by
  unfold SrtG at *
  refine List.pairwise_append.2 ⟨hs, List.pairwise_singleton _ _, fun a ha b hb => ?_⟩
  obtain rfl := List.mem_singleton.1 hb
  have hL : L ≠ [] := fun e => by rw [e] at ha; simp at ha
  have hlt : ltG (at' L (L.length - 1)) b = true := by
    cases h2 : ltG (at' L (L.length - 1)) b with
    | true => rfl
    | false => exact absurd ⟨hL, h2⟩ h
  have hp : 0 < L.length := List.length_pos_iff.2 hL
  obtain ⟨i, hi, e⟩ := List.mem_iff_getElem.1 ha
  rcases Nat.lt_or_ge i (L.length - 1) with q | q
  · have := List.pairwise_iff_getElem.1 hs i (L.length - 1) hi (by omega) q
    rw [e, ← at_eq (by omega)] at this
    cases hab : ltG a b with
    | true => rfl
    | false =>
      have k1 := ltG_ord.asy _ _ this
      have k2 := ltG_ord.tr b a (at' L (L.length - 1))
      have k3 := ltG_ord.asy _ _ hlt
      simp_all
  · obtain rfl : i = L.length - 1 := by omega
    rw [← e, ← at_eq hi]
    exact hlt
theorem goG_bad {bs : List UInt8} : ∀ {m : Nat} {L : List Sg} {st : RSt} {f : Int × Int}, st.ok bs → goG bs m L st = .error f → f.1 ≠ 0 ∧ 0 ≤ f.2 ∧ f.2 ≤ bs.length
  | 0, L, st, f, ho, h => by
    unfold goG at h
    split at h
    · cases h
    · rename_i hne
      injection h with h
      subst h
      exact ⟨fun e => hne (endS_zero ho e), endS_within ho⟩
  | m + 1, L, st, f, ho, h => by
    unfold goG at h
    have ho2 := stR_ok ho
    split at h
    · rename_i he
      injection h with h
      subst h
      exact ⟨he, ho2.fa⟩
    · rename_i he
      split at h
      · injection h with h
        subst h
        obtain ⟨e0, _, _, hle, _⟩ := sgR_form (Decidable.not_not.1 he)
        exact ⟨by simp, by simp only; omega, by simp only; omega⟩
      · exact goG_bad ho2 h
theorem decG_bad {bs : List UInt8} {f : Int × Int} (h : decG bs = .error f) : f.1 ≠ 0 ∧ 0 ≤ f.2 ∧ f.2 ≤ bs.length := by
  unfold decG at h
  split at h
  · injection h with h
    subst h
    simp
  · exact goG_bad (rd_st numS_ends (st0_ok bs)) h
theorem goG_good {bs : List UInt8} : ∀ {m : Nat} {L M : List Sg} {st : RSt}, goG bs m L st = .ok M → SrtG L → (∀ s ∈ L, 0 ≤ s.sg ∧ s.sg < 18446744073709551616) → SrtG M ∧ (∀ s ∈ M, 0 ≤ s.sg ∧ s.sg < 18446744073709551616) ∧ M.length = L.length + m ∧ st.e = 0 ∧ ∃ N, M = L ++ N ∧ bs.drop st.pl = encGs N
  | 0, L, M, st, h, hs, hp => by
    unfold goG at h
    split at h
    · rename_i he
      injection h with h
      subst h
      have h2 : st.e = 0 ∧ ¬ st.pl < bs.length := by
        unfold endS at he
        split at he
        · injection he with h1 _; cases h1
        · rename_i hn
          injection he with h1 _
          exact ⟨h1, fun hl => hn ⟨h1, hl⟩⟩
      exact ⟨hs, hp, rfl, h2.1, [], by simp, by rw [List.drop_eq_nil_of_le (by omega)]; rfl⟩
    · cases h
  | m + 1, L, M, st, h, hs, hp => by
    unfold goG at h
    split at h
    · cases h
    rename_i he
    obtain ⟨e0, e1, e2, e3, e4⟩ := sgR_form (Decidable.not_not.1 he)
    split at h
    · cases h
    rename_i ho
    obtain ⟨g1, g2, g3, g4, N, rfl, g5⟩ := goG_good h (lastG hs ho) (fun s hs => by
      rcases List.mem_append.1 hs with q | q
      · exact hp s q
      · obtain rfl := List.mem_singleton.1 q
        exact ⟨sgOf_pos, e4⟩)
    refine ⟨g1, g2, by rw [g3]; simp; omega, e0, sgR bs st :: N, by simp, ?_⟩
    rw [e1, g5]
    rfl
theorem decG_good {bs : List UInt8} {M : List Sg} (h : decG bs = .ok M) : SrtG M ∧ (∀ s ∈ M, 0 ≤ s.sg ∧ s.sg < 18446744073709551616) ∧ encG M = bs ∧ M.length ≤ 4096 := by
  unfold decG at h
  split at h
  · cases h
  obtain ⟨g1, g2, g3, g4, N, g6, g5⟩ := goG_good h List.Pairwise.nil (by simp)
  rw [List.nil_append] at g6
  subst g6
  obtain ⟨e1, e2⟩ := rd_good numS_ends g4
  have f1 := numS_form e2
  refine ⟨g1, g2, ?_, by rw [g3]; simp; omega⟩
  unfold encG
  rw [g3, List.length_nil, Nat.zero_add, ← g5, ← f1]
  rfl
theorem goG_back {pre post : List UInt8} {L : List Sg} (hs : SrtG L) (hp : ∀ s ∈ L, 0 ≤ s.sg ∧ s.sg < 18446744073709551616) : ∀ (m k : Nat), k + m = L.length →
    goG (pre ++ (encGs L ++ post)) m (L.take k) ⟨pre.length + k * 44, 0, 0⟩ = goG (pre ++ (encGs L ++ post)) 0 L ⟨pre.length + L.length * 44, 0, 0⟩
  | 0, k, hk => by
    obtain rfl : k = L.length := by omega
    rw [List.take_length]
  | m + 1, k, hk => by
    have hlt : k < L.length := by omega
    have ih := goG_back (pre := pre) (post := post) hs hp m (k + 1) (by omega)
    have hx := hp _ (at_mem hlt)
    have hb : pre ++ (encGs L ++ post) = (pre ++ encGs (L.take k)) ++ ((at' L k).key ++ ((at' L k).hash ++ (word8 (at' L k).sg.toNat ++ (encGs (L.drop (k + 1)) ++ post)))) := by
      conv => lhs; rw [gsplit hlt]
      unfold encGs
      rw [List.flatMap_append, List.flatMap_cons]
      show _ = (pre ++ List.flatMap encG1 (L.take k)) ++ _
      rw [show encG1 (at' L k) = (at' L k).key ++ ((at' L k).hash ++ word8 (at' L k).sg.toNat) from rfl]
      simp only [List.append_assoc]
    have hl : (pre ++ encGs (L.take k)).length = pre.length + k * 44 := by rw [List.length_append, encGs_len, List.length_take, Nat.min_eq_left (by omega)]
    have p1 : partS 4 (pre ++ (encGs L ++ post)) (pre.length + k * 44) = .ok ((at' L k).key, pre.length + k * 44 + 4) := by
      rw [hb, ← hl]
      exact partS_back rfl
    have p2 : partS 32 (pre ++ (encGs L ++ post)) (pre.length + k * 44 + 4) = .ok ((at' L k).hash, pre.length + k * 44 + 4 + 32) := by
      rw [hb, ← List.append_assoc, show pre.length + k * 44 + 4 = (pre ++ encGs (L.take k) ++ (at' L k).key).length from by rw [List.length_append, hl]; rfl]
      exact partS_back (at' L k).hl
    have p3 : wordS (pre ++ (encGs L ++ post)) (pre.length + k * 44 + 4 + 32) = .ok ((at' L k).sg.toNat, pre.length + k * 44 + 4 + 32 + 8) := by
      rw [hb, ← List.append_assoc, ← List.append_assoc, show pre.length + k * 44 + 4 + 32 = (pre ++ encGs (L.take k) ++ (at' L k).key ++ (at' L k).hash).length from by rw [List.length_append, List.length_append, hl, (at' L k).hl]; rfl]
      exact wordS_back (by omega)
    have e1 : stR (pre ++ (encGs L ++ post)) ⟨pre.length + k * 44, 0, 0⟩ = ⟨pre.length + (k + 1) * 44, 0, 0⟩ := by
      unfold stR
      rw [rd_step p1]
      simp only
      rw [rd_step p2]
      simp only
      rw [rd_step p3]
      show RSt.mk (pre.length + k * 44 + 4 + 32 + 8) 0 0 = RSt.mk (pre.length + (k + 1) * 44) 0 0
      rw [show pre.length + k * 44 + 4 + 32 + 8 = pre.length + (k + 1) * 44 from by omega]
    have e2 : sgR (pre ++ (encGs L ++ post)) ⟨pre.length + k * 44, 0, 0⟩ = at' L k := by
      unfold sgR
      rw [rd_step p1]
      simp only
      rw [rd_step p2]
      simp only
      rw [rd_step p3]
      exact sgOf_eq hx.1
    have hord : ¬ (L.take k ≠ [] ∧ ltG (at' (L.take k) ((L.take k).length - 1)) (at' L k) = false) := by
      rintro ⟨h1, h2⟩
      have hk0 : 0 < k := by
        rcases Nat.eq_zero_or_pos k with q | q
        · subst q; exact absurd rfl h1
        · exact q
      have hlk : (L.take k).length = k := by rw [List.length_take, Nat.min_eq_left (by omega)]
      rw [hlk, at_eq (by rw [hlk]; omega), at_eq hlt, List.getElem_take] at h2
      have := List.pairwise_iff_getElem.1 hs (k - 1) k (by omega) hlt (by omega)
      rw [this] at h2
      cases h2
    rw [← ih]
    conv => lhs; rw [goG]
    rw [e1, e2, if_neg (by simp), if_neg hord, at_eq hlt, ← List.take_succ_eq_append_getElem hlt]
theorem decG_back {L : List Sg} (hs : SrtG L) (hp : ∀ s ∈ L, 0 ≤ s.sg ∧ s.sg < 18446744073709551616) (hl : L.length ≤ 4096) : decG (encG L) = .ok L := by
  have hn : rd (numS (encG L)) 0 ⟨0, 0, 0⟩ = (L.length, ⟨(numF L.length).length, 0, 0⟩) := by
    have h0 := numS_back (a := []) (b := encGs L) (n := L.length) (by omega)
    simp only [List.nil_append, List.length_nil, Nat.zero_add] at h0
    unfold encG
    exact rd_step h0
  unfold decG
  rw [hn, if_neg (by simp only; omega)]
  have h1 := goG_back (pre := numF L.length) (post := []) hs hp L.length 0 (by omega)
  rw [List.append_nil, List.take_zero, Nat.zero_mul, Nat.add_zero] at h1
  show goG (numF L.length ++ encGs L) L.length [] ⟨(numF L.length).length, 0, 0⟩ = _
  rw [h1, goG]
  have hE : endS (numF L.length ++ encGs L) ⟨(numF L.length).length + L.length * 44, 0, 0⟩ = (0, 0) := by
    unfold endS
    rw [if_neg (by simp [encGs_len])]
  rw [hE, if_pos rfl]
end Go.Proofs.Ytagmnpeilgnbdaa.A

namespace Go.Proofs.Ytagmnpeilgnbdaa.A
open Go Go.Vm
set_option maxRecDepth 10000
set_option linter.unusedVariables false
theorem PRs.own_lt {h : Heap} {p : Nat} {sv : Value} {bs : List UInt8} {st : RSt} (hp : PRs h p sv bs st) {i : Nat} (hi : ownedBy sv i) : i < h.n := let ⟨_, _, h2⟩ := hp.ex; h2.own.lt hi
theorem same_fault {a b : Int} : same [.int .i64 a, .int .i64 b] [.int .i64 0, .int .i64 0] = decide ((a, b) = ((0, 0) : Int × Int)) := by
  by_cases h : (a, b) = ((0, 0) : Int × Int)
  · rw [decide_eq_true h]
    cases h
    exact same_self _
  · rw [decide_eq_false h]
    exact same_ne.2 fun h2 => h (by cases h2; rfl)
end Go.Proofs.Ytagmnpeilgnbdaa.A

namespace Go.Proofs.Ytagmnpeilgnbdaa.A
open Go Go.Vm
set_option maxRecDepth 10000
set_option linter.unusedVariables false
theorem sigFill {a b c d : UInt8} {hs : List UInt8} {n : Nat} (h2 : hs.length = 32) : Fill zG [(0, 4, .agg ⟨bcells [a, b, c, d]⟩), (4, 32, .agg ⟨bcells hs⟩), (36, 1, .int .u64 (n : Int))] (sgOf [a, b, c, d] hs n).cells := by
  haveI : LenN (bcells hs) 32 := ⟨by rw [bcells_len, h2]⟩
  haveI : LenN (bcells [a, b, c, d]) 4 := ⟨rfl⟩
  haveI o1 : Over zG 0 (bcells [a, b, c, d]) (bcells [a, b, c, d] ++ (z32 ++ [.int .u64 0])) := ⟨by show 0 + 4 ≤ 37; decide, rfl⟩
  haveI o2 : Over (bcells [a, b, c, d] ++ (z32 ++ [.int .u64 0])) 4 (bcells hs) (bcells [a, b, c, d] ++ (bcells hs ++ [.int .u64 0])) := ⟨by rw [bcells_len, h2]; show 4 + 32 ≤ 37; decide, over_mid2 _ _ _ _ _ rfl (by have := bcells_len hs; rw [this, h2]; rfl) (fun e => by have := congrArg List.length e; rw [bcells_len, h2] at this; simp at this)⟩
  haveI o3 : Over (bcells [a, b, c, d] ++ (bcells hs ++ [.int .u64 0])) 36 [.int .u64 (n : Int)] (bcells [a, b, c, d] ++ (bcells hs ++ [.int .u64 (n : Int)])) := ⟨by simp [bcells_len, h2], by
    have := over_mid2 (bcells [a, b, c, d] ++ bcells hs) [.int .u64 0] [] 36 [.int .u64 (n : Int)] (by simp [bcells_len, h2]) rfl (by simp)
    simpa only [List.append_assoc, List.append_nil, List.nil_append, List.cons_append] using this⟩
  rw [sgOf_cells h2]
  exact inferInstance
instance overS {s t : Sg} : Over s.cells 0 t.cells t.cells := ⟨by rw [s.len, t.len]; decide, over_all _ _ (by rw [s.len, t.len])⟩
theorem num_e {bs : List UInt8} {st : RSt} (h : (rd (numS bs) 0 st).1 ≠ 0) : (rd (numS bs) 0 st).2.e = 0 := by
  unfold rd at h ⊢
  split
  · split
    · rfl
    · rename_i hS
      rw [if_pos (by assumption), hS] at h
      exact absurd rfl h
  · rename_i hne
    rw [if_neg hne] at h
    exact absurd rfl h
theorem xgeq1 {P : Program} {ts : List Value} {h : Heap} {x y : Operand} {p q : Int} {O : Oper} (hp : q ≤ p) [e1 : Ev ts x (.int .i64 p)] [e2 : Ev ts y (.int .i64 q)] : XOp P ts h (.bin .geq O x y) (.bool true) h := by
  have := (XOp.geqI : XOp P ts h (.bin .geq O x y) (.bool (decide (q ≤ p))) h)
  rw [decide_eq_true hp] at this
  exact this
theorem xgeq0 {P : Program} {ts : List Value} {h : Heap} {x y : Operand} {p q : Int} {O : Oper} (hp : ¬ q ≤ p) [e1 : Ev ts x (.int .i64 p)] [e2 : Ev ts y (.int .i64 q)] : XOp P ts h (.bin .geq O x y) (.bool false) h := by
  have := (XOp.geqI : XOp P ts h (.bin .geq O x y) (.bool (decide (q ≤ p))) h)
  rw [decide_eq_false hp] at this
  exact this
theorem TbAt.snoc {h : Heap} {p m c : Nat} {l : List GEnt} {most : Int} {L : List Sg} {s : Sg} (ha : TbAt h p m c l most L) (hs : SrtG (L ++ [s])) (hl : L.length < 255) : TbAt (h.set m (.map (gents (l ++ [⟨s, c⟩])) (c + 1))) p m (c + 1) (l ++ [⟨s, c⟩]) most (L ++ [s]) := by
  have hpm : p ≠ m := fun e => by
    have := ha.g
    rw [e, ha.gm] at this
    cases this
  have hn : s ∉ L := fun e => by
    have := (List.pairwise_append.1 hs).2.2 s e s (by simp)
    rw [ltG_irr] at this
    cases this
  refine ⟨by rw [Heap.get_set, if_neg hpm]; exact ha.g, by simpa using ha.lp, by rw [Heap.get_set, if_pos rfl], by simpa using ha.lm, ha.ok.add fun e he q => hn (ha.mem.2 ⟨e, he, q⟩), ?_, hs, by simp; omega⟩
  rw [List.map_append]
  exact ha.pe.append_right [s]
set_option maxHeartbeats 64000000 in
theorem gDecode_ok {h : Heap} {v : Value} {bs : List UInt8} (hv : Rd h 1 v (bcells bs) bs.length) (hs : bs.length ≤ 3000) :
    Runs Try.prog T0 (.fn fn_zlbQ) [v] h
      (fun r h' => ((∃ (L : List Sg) (p m c : Nat) (l : List GEnt), decG bs = .ok L ∧ r = .tuple ⟨[.pointer (some ⟨p, 0, none⟩), .agg ⟨[.int .i64 0, .int .i64 0]⟩]⟩ ∧ TbAt h' p m c l 4096 L ∧ h.n ≤ p ∧ h.n ≤ m) ∨ (∃ (e a : Int), decG bs = .error (e, a) ∧ r = .tuple ⟨[.pointer none, .agg ⟨[.int .i64 e, .int .i64 a]⟩]⟩)) ∧ Fr (fun _ => False) h h') (fun _ _ => False) := by
  obtain ⟨av, cv, rfl, hvl, hvc⟩ := id hv
  refine zlbQ_runs ?_
  refine stp ?_
  have hf0 : Fr (fun _ => False) h (h.push (.cells [.int .i64 0, .int .i64 0] 0)) := Fr.refl.push
  refine O.call' (NewReader_ok (hv.keep hf0 fun _ _ => id) (by omega)) (fun r h1 hr => ?_)
  obtain ⟨p, sv, rfl, hp1, hsv, hr1, hf1⟩ := hr
  simp only [Heap.n_push] at hp1 hsv
  refine stp ?_
  refine O.call' (Num_run hr1) (fun r h2 hr => ?_)
  obtain ⟨hf2, rfl, hr2⟩ := hr
  have hf01 : Fr (fun _ => False) h h1 := hf0.trans' hf1
  have hn01 := hf1.n
  simp only [Heap.n_push] at hn01
  have hn12 := hf2.n
  have hp1n := hr1.lt
  have hA1 : HGet h1 h.n (.cells [.int .i64 0, .int .i64 0] 0) := hf1.keep (b := h.n) HGet.new (by simp) id
  have hA2 : HGet h2 h.n (.cells [.int .i64 0, .int .i64 0] 0) := hf2.keep hA1 (by omega) (by omega)
  have hfh2 : Fr (fun _ => False) h h2 := Fr.trans (S := fun _ => False) hf01 hf2 fun i hi ho => by omega
  have hdec : decG bs = if 4096 < (rd (numS bs) 0 ⟨0, 0, 0⟩).1 then .error (4, 0) else goG bs (rd (numS bs) 0 ⟨0, 0, 0⟩).1 [] (rd (numS bs) 0 ⟨0, 0, 0⟩).2 := rfl
  have he0 := num_e (bs := bs) (st := ⟨0, 0, 0⟩)
  have hok0 : (rd (numS bs) 0 ⟨0, 0, 0⟩).2.ok bs := rd_st numS_ends (st0_ok bs)
  rw [hdec]
  clear hdec
  generalize rd (numS bs) 0 ⟨0, 0, 0⟩ = n at *
  obtain ⟨n, st0⟩ := n
  simp only at hr2 he0 hok0 ⊢
  haveI : BLt h.n h2 := ⟨by omega⟩
  haveI : HGet h2 h.n _ := hA2
  refine stp ?_
  refine C.if (fun hbig => ?_) (fun hsm => ?_)
  · refine stp ?_
    exact ⟨.inr ⟨4, 0, by rw [if_pos (by omega)], rfl⟩, Fr.set hfh2 fun hlt => by omega⟩
  rw [if_neg (by omega)]
  refine stp ?_
  refine O.call' (gNew_ok (by omega) (by omega)) (fun r h3 hr => ?_)
  obtain ⟨rfl, ha3, hf3⟩ := hr
  have hn23 := hf3.n
  have hp2 := hr2.lt
  have hsv2 : ∀ i, ownedBy sv i → i < h2.n := fun i hi => hr2.own_lt hi
  have hr3 := hr2.none hf3
  have hA3 : HGet h3 h.n _ := hf3.keep hA2 (by omega) id
  have hm3 := ha3.lp
  refine stp ?_
  have f4 : Fr (fun _ => False) h3 (h3.push (.cells zG 0)) := Fr.refl.push
  have g4 : (h3.push (.cells zG 0)).get h3.n = .cells zG 0 := HGet.new.eq
  have n4 : (h3.push (.cells zG 0)).n = h3.n + 1 := rfl
  have ha4 := ha3.keep f4 id id
  have hr4 := hr3.none f4
  have hA4 : HGet (h3.push (.cells zG 0)) h.n _ := f4.keep hA3 (by omega) id
  have hF4 : Fr (fun _ => False) h (h3.push (.cells zG 0)) := (hfh2.trans' hf3).trans' f4
  generalize h3.push (.cells zG 0) = h4 at *
  refine loop1 zlbQ_l0_M 26 (fun q v26 hx => ∃ (k : Nat) (L : List Sg) (st : RSt) (c : Nat) (l : List GEnt), k ≤ n ∧ q = n - k ∧ v26 = .int .i64 k ∧ L.length = k ∧ goG bs n [] st0 = goG bs (n - k) L st ∧ (k < n → st.e = 0) ∧ (st.e = 0 → 44 * k ≤ st.pl) ∧ st.ok bs ∧ TbAt hx (h2.n + 1) h2.n c l 4096 L ∧ PRs hx p sv bs st ∧ hx.get h3.n = .cells (at' L (L.length - 1)).cells 0 ∧ Fr (fun i => i = p ∨ i = h2.n ∨ i = h3.n) h4 hx) ?_ n ⟨0, [], st0, 0, [], by omega, rfl, rfl, rfl, rfl, fun hp => he0 (by omega), fun _ => by omega, hok0, ha4, hr4, by rw [g4]; rfl, Fr.refl⟩
  clear ha4 hr4 g4 ha3 hr3
  rintro m v26 h' x2 x9 x10 x11 x12 x27 x28 x29 x30 x31 x32 x33 x34 x35 x36 x37 x38 x39 x40 x41 x42 x43 x44 x45 x46 x47 x48 x49 x50 x51 x52 x53 x54 x55 x56 x57 x58 x59 x60 x61 x62 x63 x64 x65 x66 x67 x68 x69 ⟨k, L, st, c, l, hk, rfl, rfl, hLk, hgo, hek, h44, hok, ha, hr, hg, hF⟩
  have nF := hF.n
  refine stp ?_
  refine C.if (fun hlt => ?_) (fun hge => ?_)
  · have hst0 : st.e = 0 := hek (by omega)
    have hple := hr.le hst0
    have h44' := h44 hst0
    refine stp ?_
    refine O.call' (Rest_run hr) (fun r h5 hr' => ?_)
    obtain ⟨rfl, rfl⟩ := hr'
    rw [show restS bs st = (bs.length : Int) - st.pl from by unfold restS; rw [if_pos hst0]]
    refine stp ?_
    have k1 := Key_run hr
    generalize e1 : rd (partS 4 bs) zb4 st = A at k1
    obtain ⟨ak, st4⟩ := A
    refine O.call' k1 (fun r h6 hq => ?_)
    obtain ⟨hf6, ⟨rfl, hl6⟩, hr6⟩ := hq
    simp only at hl6 hr6
    obtain ⟨a1, a2, a3, a4, rfl⟩ := four hl6
    refine stp ?_
    have k2 := Hash_run hr6
    generalize e2 : rd (partS 32 bs) zb32 st4 = A at k2
    obtain ⟨hs', st5⟩ := A
    refine O.call' k2 (fun r h7 hq => ?_)
    obtain ⟨hf7, ⟨rfl, hl7⟩, hr7⟩ := hq
    simp only at hl7 hr7
    refine stp ?_
    have k3 := Word_run hr7
    generalize e3 : rd (wordS bs) 0 st5 = A at k3
    obtain ⟨w, st6⟩ := A
    refine O.call' k3 (fun r h8 hq => ?_)
    obtain ⟨hf8, rfl, hr8⟩ := hq
    simp only at hr8
    have hS : sgR bs st = sgOf [a1, a2, a3, a4] hs' w := by
      unfold sgR
      rw [e1]
      simp only
      rw [e2]
      simp only
      rw [e3]
    have hT : stR bs st = st6 := by
      unfold stR
      rw [e1]
      simp only
      rw [e2]
      simp only
      rw [e3]
    haveI hfill := sigFill (a := a1) (b := a2) (c := a3) (d := a4) (n := w) hl7
    rw [← hS] at hfill
    refine stp ?_
    have hF58 : Fr (fun i => i = p) h5 h8 := (hf6.trans' hf7).trans' hf8
    have n58 := hF58.n
    have f9 : Fr (fun _ => False) h8 (h8.push (.cells (sgR bs st).cells 0)) := Fr.refl.push
    have g9 : (h8.push (.cells (sgR bs st).cells 0)).get h8.n = .cells (sgR bs st).cells 0 := HGet.new.eq
    have n9 : (h8.push (.cells (sgR bs st).cells 0)).n = h8.n + 1 := rfl
    have hr9 := hr8.none f9
    generalize h8.push (.cells (sgR bs st).cells 0) = h9 at *
    have k4 := End_run hr9
    have hok6 : st6.ok bs := by rw [← hT]; exact stR_ok hok
    have he6 : st6.e = 0 ∨ st6.e = 6 := by rw [← hT]; exact stR_e hst0
    have hgo1 : goG bs (n - k) L st = if st6.e ≠ 0 then .error (st6.e, st6.fa)
      else if L ≠ [] ∧ ltG (at' L (L.length - 1)) (sgR bs st) = false then .error (9, (st.pl : Int))
      else goG bs (n - (k + 1)) (L ++ [sgR bs st]) st6 := by
      rw [show n - k = (n - (k + 1)) + 1 from by omega, goG, hT]
    have hlp := hr.lt
    have hF9 : Fr (fun i => i = p) h5 h9 := Fr.trans hF58 f9 fun _ _ e => e.elim
    have hF49 : Fr (fun i => i = p ∨ i = h2.n ∨ i = h3.n) h4 h9 := hF.trans' (hF9.mono fun _ _ e => .inl e)
    have hA9 : HGet h9 h.n _ := hF49.keep hA4 (by omega) (by omega)
    have hFh9 : Fr (fun _ => False) h h9 := Fr.trans (S := fun _ => False) hF4 hF49 fun i hi e => by omega
    have hend : (st6.e = 6 ∧ (endS bs st6).1 = 6 ∧ (endS bs st6).2 = st6.fa) ∨ (st6.e = 0 ∧ ((endS bs st6).1 = 0 ∨ (endS bs st6).1 = 4)) := by
      unfold endS
      rcases he6 with q | q
      · right
        refine ⟨q, ?_⟩
        split
        · exact .inr rfl
        · exact .inl q
      · left
        refine ⟨q, ?_⟩
        rw [if_neg (by omega), q]
        exact ⟨rfl, rfl⟩
    generalize (endS bs st6).1 = E at k4 hend
    generalize (endS bs st6).2 = A' at k4 hend
    refine O.call' k4 (fun r h10 hq => ?_)
    obtain ⟨rfl, hf10⟩ := hq
    have hA10 : HGet h10 h.n _ := hf10.keep hA9 (by omega) id
    haveI := hA10
    have n10 := hf10.n
    have ha10 := ((ha.keep hF9 (by omega) (by omega)).keep hf10 id id)
    have hr10 := hr9.none hf10
    have g10 : h10.get h8.n = .cells (sgR bs st).cells 0 := by rw [hf10.get _ (by omega) id]; exact g9
    have ga10 : h10.get h3.n = .cells (at' L (L.length - 1)).cells 0 := by rw [hf10.get _ (by omega) id, hF9.get _ (by omega) (by omega)]; exact hg
    haveI : HGet h10 h8.n _ := ⟨g10⟩
    haveI : HGet h10 h3.n _ := ⟨ga10⟩
    haveI : BLt h.n h10 := ⟨by omega⟩
    haveI : BLt h8.n h10 := ⟨by omega⟩
    haveI : BLt h3.n h10 := ⟨by omega⟩
    have hFh10 := hFh9.trans' hf10
    haveI qn : ∀ {ts : List Value} {h : Heap} {Q0 : Oper} {x z : Operand} {p : Int} [Ev ts x (.int .i64 p)] [Ev ts z (.int .i64 p)], XOp Try.prog ts h (.bin .neq Q0 x z) (.bool false) h := xneqI0 rfl
    rcases hend with ⟨he, rfl, rfl⟩ | ⟨he, hE⟩
    · haveI z1 : ∀ {ts : List Value} {h : Heap} {O : Oper} {x z : Operand} [Ev ts x (.int .i64 6)] [Ev ts z (.int .i64 0)], XOp Try.prog ts h (.bin .neq O x z) (.bool true) h := xneqI1 (by decide)
      haveI z2 : ∀ {ts : List Value} {h : Heap} {O : Oper} {x z : Operand} [Ev ts x (.int .i64 6)] [Ev ts z (.int .i64 4)], XOp Try.prog ts h (.bin .neq O x z) (.bool true) h := xneqI1 (by decide)
      refine stp ?_
      exact ⟨.inr ⟨6, st6.fa, by rw [hgo, hgo1, if_pos (by omega), he], rfl⟩, hFh10.push.set fun hlt => by omega⟩
    haveI z40 : ∀ {ts : List Value} {h : Heap} {O : Oper} {x z : Operand} [Ev ts x (.int .i64 4)] [Ev ts z (.int .i64 0)], XOp Try.prog ts h (.bin .neq O x z) (.bool true) h := xneqI1 (by decide)
    have hform := sgR_form (bs := bs) (st := st) (by rw [hT]; exact he)
    rw [hT] at hform
    have hlen2 : L.length + 1 < 256 := by omega
    have hkn := ha10.kn (sgR bs st)
    generalize sgR bs st = S at *
    have F11 : Fr (fun _ => False) h10 (h10.push (.cells [.int .i64 E, .int .i64 A'] 0)) := Fr.refl.push
    have n11 : (h10.push (.cells [.int .i64 E, .int .i64 A'] 0)).n = h10.n + 1 := rfl
    have ha11 := ha10.keep F11 id id
    have hr11 := hr10.none F11
    have again : ∀ {hX : Heap}, Fr (fun _ => False) h10 hX → SrtG (L ++ [S]) → ∃ (k' : Nat) (L' : List Sg) (st' : RSt) (c' : Nat) (l' : List GEnt), k' ≤ n ∧ n - (k + 1) = n - k' ∧ Value.int .i64 ((k : Int) + 1) = .int .i64 k' ∧ L'.length = k' ∧ goG bs n [] st0 = goG bs (n - k') L' st' ∧ (k' < n → st'.e = 0) ∧ (st'.e = 0 → 44 * k' ≤ st'.pl) ∧ st'.ok bs ∧ TbAt ((hX.set h3.n (.cells S.cells 0)).set h2.n (.map (gents (l ++ [⟨S, c⟩])) (c + 1))) (h2.n + 1) h2.n c' l' 4096 L' ∧ PRs ((hX.set h3.n (.cells S.cells 0)).set h2.n (.map (gents (l ++ [⟨S, c⟩])) (c + 1))) p sv bs st' ∧ ((hX.set h3.n (.cells S.cells 0)).set h2.n (.map (gents (l ++ [⟨S, c⟩])) (c + 1))).get h3.n = .cells (at' L' (L'.length - 1)).cells 0 ∧ Fr (fun i => i = p ∨ i = h2.n ∨ i = h3.n) h4 ((hX.set h3.n (.cells S.cells 0)).set h2.n (.map (gents (l ++ [⟨S, c⟩])) (c + 1))) := fun {hX} fX hso => by
      have f12 : Fr (fun i => i = h3.n) hX (hX.set h3.n (.cells S.cells 0)) := Fr.refl.set fun _ => rfl
      have ha12 := (ha10.keep fX id id).keep f12 (by omega) (by omega)
      have hr12 := (hr10.none fX).keep f12 (by omega) fun i hi => by have := hsv2 i hi; omega
      have f13 : Fr (fun i => i = h2.n) (hX.set h3.n (.cells S.cells 0)) ((hX.set h3.n (.cells S.cells 0)).set h2.n (.map (gents (l ++ [⟨S, c⟩])) (c + 1))) := Fr.refl.set fun _ => rfl
      refine ⟨k + 1, L ++ [S], st6, _, _, by omega, rfl, rfl, by simp [hLk], ?_, fun _ => he, fun _ => by omega, hok6, ha12.snoc hso (by omega), hr12.keep f13 (by omega) fun i hi => by have := hsv2 i hi; omega, ?_, ?_⟩
      · rw [hgo, hgo1, if_neg (by omega), if_neg]
        rintro ⟨h1, h2⟩
        have hp : 0 < L.length := List.length_pos_iff.2 h1
        have := at_lt hso (i := L.length - 1) (j := L.length) (by omega) (by simp)
        rw [at_eq (by rw [List.length_append, List.length_singleton]; omega), at_eq (by simp), List.getElem_append_left (by omega), List.getElem_append_right (by omega), ← at_eq (by omega)] at this
        simp only [Nat.sub_self, List.getElem_cons_zero] at this
        rw [this] at h2
        cases h2
      · rw [Heap.get_set, if_neg (by omega), Heap.get_set, if_pos rfl, List.length_append, List.length_singleton, Nat.add_sub_cancel, at_eq (by simp), List.getElem_append_right (by omega)]
        simp
      · refine Fr.trans (S := fun i => i = p ∨ i = h2.n ∨ i = h3.n) (Fr.trans (S := fun i => i = p ∨ i = h2.n ∨ i = h3.n) (Fr.trans (S := fun i => i = p ∨ i = h2.n ∨ i = h3.n) (Fr.trans (S := fun i => i = p ∨ i = h2.n ∨ i = h3.n) hF49 hf10 fun _ _ e => e.elim) fX fun _ _ e => e.elim) f12 fun _ _ e => .inr (.inr e)) f13 fun _ _ e => .inr (.inl e)
    haveI b1 : BNe h3.n (h2.n + 1) := ⟨by omega⟩
    haveI b2 : BNe (h2.n + 1) h3.n := ⟨by omega⟩
    haveI b3 : BNe h3.n h2.n := ⟨by omega⟩
    haveI b4 : BNe h2.n h3.n := ⟨by omega⟩
    haveI b5 : BNe h8.n h3.n := ⟨by omega⟩
    haveI b6 : BNe h3.n h8.n := ⟨by omega⟩
    haveI : HGet h10 (h2.n + 1) _ := ⟨ha10.g⟩
    haveI : HGet h10 h2.n _ := ⟨ha10.gm⟩
    haveI : BLt (h2.n + 1) h10 := ⟨ha10.lp⟩
    haveI : BLt h2.n h10 := ⟨ha10.lm⟩
    rcases Nat.eq_zero_or_pos k with hk0 | hk0
    · haveI z5 : ∀ {ts : List Value} {h : Heap} {O : Oper} {x z : Operand} [Ev ts x (.int .i64 (k : Nat))] [Ev ts z (.int .i64 0)], XOp Try.prog ts h (.bin .gtr O x z) (.bool false) h := xgtr0 (by omega)
      have hL0 : L = [] := List.length_eq_zero_iff.1 (by omega)
      have hso : SrtG (L ++ [S]) := by rw [hL0]; exact List.pairwise_singleton _ _
      haveI : Kn l S false := by
        have : decide (S ∈ L) = false := by rw [hL0]; simp
        rw [← this]
        exact hkn
      rcases hE with rfl | rfl <;> (refine stp ?_; exact loop1a 26 (n - (k + 1)) (by omega) (again F11 hso))
    · haveI z5 : ∀ {ts : List Value} {h : Heap} {O : Oper} {x z : Operand} [Ev ts x (.int .i64 (k : Nat))] [Ev ts z (.int .i64 0)], XOp Try.prog ts h (.bin .gtr O x z) (.bool true) h := xgtr1 (by omega)
      have hL0 : L ≠ [] := fun e => by rw [e] at hLk; simp at hLk; omega
      have hc := cmpG_lt (at' L (L.length - 1)) S
      cases hl : ltG (at' L (L.length - 1)) S with
      | false =>
        have hc' : 0 ≤ cmpG (at' L (L.length - 1)) S := by rw [hl] at hc; simp at hc; exact hc
        haveI z6 : ∀ {ts : List Value} {h : Heap} {O : Oper} {x z : Operand} [Ev ts x (.int .i64 (cmpG (at' L (L.length - 1)) S))] [Ev ts z (.int .i64 0)], XOp Try.prog ts h (.bin .geq O x z) (.bool true) h := xgeq1 hc'
        rcases hE with rfl | rfl <;> (refine stp ?_; refine O.callT gcompare_ok (fun r h14 hq => ?_); obtain ⟨rfl, f14⟩ := hq; haveI : HGet h14 h.n _ := f14.keep (F11.keep hA10 (by omega) id) (by omega) id; haveI : BLt h.n h14 := ⟨by have := f14.n; omega⟩; refine stp ?_; exact ⟨.inr ⟨9, (st.pl : Int), by rw [hgo, hgo1, if_neg (by omega), if_pos ⟨hL0, hl⟩], by rw [show (bs.length : Int) - ((bs.length : Int) - st.pl) = st.pl from by omega]⟩, (hFh10.push.trans' f14).set fun hlt => by omega⟩)
      | true =>
        have hso : SrtG (L ++ [S]) := lastG ha.so fun q => by rw [hl] at q; cases q.2
        haveI : Kn l S false := by
          have : decide (S ∈ L) = false := decide_eq_false fun e => by
            have := (List.pairwise_append.1 hso).2.2 S e S (by simp)
            rw [ltG_irr] at this
            cases this
          rw [← this]
          exact hkn
        have hc' : cmpG (at' L (L.length - 1)) S < 0 := hc.2 hl
        haveI z6 : ∀ {ts : List Value} {h : Heap} {O : Oper} {x z : Operand} [Ev ts x (.int .i64 (cmpG (at' L (L.length - 1)) S))] [Ev ts z (.int .i64 0)], XOp Try.prog ts h (.bin .geq O x z) (.bool false) h := xgeq0 (by omega)
        rcases hE with rfl | rfl <;> (refine stp ?_; refine O.callT gcompare_ok (fun r h14 hq => ?_); obtain ⟨rfl, f14⟩ := hq; have F14 := F11.trans' f14; have n14 := F14.n; have ha14 := ha10.keep F14 id id; haveI : HGet h14 h.n _ := F14.keep hA10 (by omega) id; haveI : BLt h.n h14 := ⟨by omega⟩; haveI : BLt h3.n h14 := ⟨by omega⟩; haveI : BLt h8.n h14 := ⟨by omega⟩; haveI : HGet h14 h8.n _ := F14.keep ⟨g10⟩ (by omega) id; haveI : HGet h14 h3.n _ := F14.keep ⟨ga10⟩ (by omega) id; haveI : HGet h14 (h2.n + 1) _ := ⟨ha14.g⟩; haveI : HGet h14 h2.n _ := ⟨ha14.gm⟩; haveI : BLt (h2.n + 1) h14 := ⟨ha14.lp⟩; haveI : BLt h2.n h14 := ⟨ha14.lm⟩; refine stp ?_; exact loop1a 26 (n - (k + 1)) (by omega) (again F14 hso))
  obtain rfl : k = n := by omega
  have hlp := hr.lt
  have hAk : HGet h' h.n _ := hF.keep hA4 (by omega) (by omega)
  have hFh : Fr (fun _ => False) h h' := Fr.trans (S := fun _ => False) hF4 hF fun i hi e => by omega
  have hgoe : goG bs k [] st0 = if endS bs st = (0, 0) then .ok L else .error (endS bs st) := by rw [hgo, Nat.sub_self, goG]
  refine stp ?_
  have k3 := End_run hr
  generalize endS bs st = F at k3 hgoe
  obtain ⟨E, A'⟩ := F
  simp only at k3
  refine O.call' k3 (fun r h5 hq => ?_)
  obtain ⟨rfl, hf5⟩ := hq
  have n5 := hf5.n
  have hA5 : HGet h5 h.n _ := hf5.keep hAk (by omega) id
  haveI := hA5
  haveI : BLt h.n h5 := ⟨by omega⟩
  have ha5 := ha.keep hf5 id id
  have hFh5 := hFh.trans' hf5
  refine stp ?_
  rw [same_fault]
  refine C.ifN (fun hc => ?_) (fun hc => ?_)
  · refine stp ?_
    exact ⟨.inr ⟨E, A', by rw [hgoe, if_neg hc], rfl⟩, hFh5.push.set fun hlt => by omega⟩
  · refine stp ?_
    exact ⟨.inl ⟨L, h2.n + 1, h2.n, c, l, by rw [hgoe, if_pos hc], rfl, (ha5.keep (S := fun _ => False) Fr.refl.push id id).keep (S := fun i => i = h.n) (Fr.refl.set fun _ => rfl) (by omega) (by omega), by omega, by omega⟩, hFh5.push.set fun hlt => by omega⟩
end Go.Proofs.Ytagmnpeilgnbdaa.A

namespace Go.Proofs.Ytagmnpeilgnbdaa.A
open Go Go.Vm
set_option maxRecDepth 10000
set_option linter.unusedVariables false
theorem add_in {most : Int} {L : List Sg} {s : Sg} {P : Sg → Prop} (hp : ∀ s ∈ L, P s) (hs : P s) : ∀ x ∈ (addG most L s).1, P x := by
  intro x hx
  unfold addG at hx
  split at hx
  · exact hp x hx
  · split at hx
    · exact hp x hx
    · rcases List.mem_cons.1 (insG_perm.mem_iff.1 hx) with rfl | q
      · exact hs
      · exact hp x q
set_option maxHeartbeats 64000000 in
theorem SigsBack_true {h : Heap} {v w : Value} {l : List Sg} {b : List UInt8} (hv : Rd h 37 v (gcells l) l.length) (hp : ∀ s ∈ l, 0 ≤ s.sg ∧ s.sg < 18446744073709551616) (hw : Rd h 1 w (bcells b) b.length) :
    Runs Try.prog T0 (.fn fn_zjQ) [v, w] h (fun r h' => r = .bool true) (fun _ _ => False) := by
  obtain ⟨av, cv, rfl, hvl, hvc⟩ := id hv
  obtain ⟨aw, cw, rfl, hwl, hwc⟩ := id hw
  haveI qn : ∀ {ts : List Value} {h : Heap} {Q0 : Oper} {x z : Operand} {p : Int} [Ev ts x (.int .i64 p)] [Ev ts z (.int .i64 p)], XOp Try.prog ts h (.bin .neq Q0 x z) (.bool false) h := xneqI0 rfl
  haveI qs : ∀ {ts : List Value} {h : Heap} {Q0 : Oper} {x z : Operand} {p : Int} [Ev ts x (.int .i64 p)] [Ev ts z (.int .i64 p)], XOp Try.prog ts h (.bin .eql Q0 x z) (.bool true) h := xeql1 rfl
  refine zjQ_runs ?_
  refine stp ?_
  refine O.call' zkQ_known (fun r h0 hr => ?_)
  obtain ⟨rfl, rfl⟩ := hr
  refine stp ?_
  refine O.dec (fun hlong => ?_) (fun hshort => ?_)
  · refine stp ?_
    rfl
  refine stp ?_
  refine C.if (fun hlong => ?_) (fun hshort2 => ?_)
  · refine stp ?_
    rfl
  refine stp ?_
  refine O.call' (gNew_ok (by omega) (by omega)) (fun r h1 hr => ?_)
  obtain ⟨rfl, ha, f1⟩ := hr
  have n1 := f1.n
  refine stp ?_
  refine loop1 zjQ_l0_M 8 (fun q v8 hx => ∃ (k : Nat) (L : List Sg) (c : Nat) (l1 : List GEnt), k ≤ l.length ∧ q = l.length - k ∧ v8 = .int .i64 k ∧ TbAt hx (h0.n + 1) h0.n c l1 4096 L ∧ (∀ s ∈ L, 0 ≤ s.sg ∧ s.sg < 18446744073709551616) ∧ L.length ≤ k ∧ Fr (fun _ => False) h0 hx) ?_ l.length ⟨0, [], 0, [], by omega, rfl, rfl, ha, by simp, by simp, f1⟩
  clear ha f1
  rintro m v8 h' x37 x38 x39 x40 x41 x42 x43 x44 x45 x46 x47 x48 ⟨k, L, c, l1, hk, rfl, rfl, ha, hpL, hLk, hF⟩
  rcases Nat.lt_or_ge k l.length with hlt | hge
  · haveI q1 : ∀ {ts : List Value} {h : Heap} {O : Oper} {x z : Operand} [Ev ts x (.int .i64 (k : Nat))] [Ev ts z (.int .i64 (l.length : Nat))], XOp Try.prog ts h (.bin .lss O x z) (.bool true) h := xlss1 (by omega)
    obtain ⟨bb, o, sp, rfl, hbl, hcc⟩ := hvc (by omega)
    haveI := sig_cells ((cellsAt_keep hF hbl id).trans hcc) rfl hlt
    refine stp ?_
    refine O.call' (gAdd_ok ha (s := at' l k) (by omega)) (fun r h4 hr => ?_)
    obtain ⟨rfl, ⟨c4, l4, ha4⟩, f4⟩ := hr
    have hadd := add_len (most := 4096) (L := L) (s := at' l k)
    refine stp ?_
    exact loop1a 8 (l.length - (k + 1)) (by omega) ⟨k + 1, _, _, _, by omega, rfl, rfl, ha4, add_in hpL (hp _ (at_mem hlt)), by omega, Fr.trans (S := fun _ => False) hF f4 fun i hi e => by omega⟩
  obtain rfl : k = l.length := by omega
  haveI q1 : ∀ {ts : List Value} {h : Heap} {O : Oper} {x z : Operand} [Ev ts x (.int .i64 (l.length : Nat))] [Ev ts z (.int .i64 (l.length : Nat))], XOp Try.prog ts h (.bin .lss O x z) (.bool false) h := xlss0 (by omega)
  have hel := encG_len ha.len
  refine stp ?_
  refine O.call' (gEncode_ok ha fun s hs => (hpL s hs).1) (fun r h3 hr => ?_)
  obtain ⟨v3, rfl, ho3, hnew3, f3⟩ := hr
  have ha3 := ha.keep f3 id id
  have hback := decG_back ha.so hpL (by omega)
  obtain ⟨a3, c3, rfl, _, _⟩ := id ho3.rd
  refine stp ?_
  refine O.call' (gDecode_ok ho3.rd (by omega)) (fun r h4 hr => ?_)
  obtain ⟨hr, f4⟩ := hr
  rcases hr with ⟨L2, p, m, c4, l4, e2, rfl, hu, hup, hum⟩ | ⟨e, a, e2, _⟩
  case inr => rw [hback] at e2; cases e2
  rw [hback] at e2
  injection e2 with e2
  subst e2
  have ha4 := ha3.keep f4 id id
  have hF4 := (hF.trans' f3).trans' f4
  refine stp ?_
  have f5 : Fr (fun _ => False) h4 (h4.push (.cells [.int .i64 0, .int .i64 0] 0)) := Fr.refl.push
  have ha5 := ha4.keep f5 id id
  have hu5 := hu.keep f5 id id
  have hF5 := hF4.trans' f5
  generalize h4.push (.cells [.int .i64 0, .int .i64 0] 0) = h5 at *
  refine O.callT (gList_ok ha5) (fun r h6 hr => ?_)
  obtain ⟨ho6, hnew6, f6⟩ := hr
  refine stp ?_
  refine O.callT (gList_ok (hu5.keep f6 id id)) (fun r h7 hr => ?_)
  obtain ⟨ho7, hnew7, f7⟩ := hr
  have ho67 := ho6.keep f7 fun _ _ => id
  obtain ⟨a6, c6, rfl, _, _⟩ := id ho67.rd
  obtain ⟨a7, c7, rfl, _, _⟩ := id ho7.rd
  have hF7 := (hF5.trans' f6).trans' f7
  refine stp ?_
  refine O.callT (SameSigs_same ho67 ho7 (by omega)) (fun r h8 hr => ?_)
  obtain ⟨rfl, rfl⟩ := hr
  refine stp ?_
  refine O.call' (gDecode_ok (hw.keep hF7 fun _ _ => id) (by omega)) (fun r h9 hr => ?_)
  obtain ⟨hr, f9⟩ := hr
  rcases hr with ⟨M, pm, mm, cm, lm, eM, rfl, hM, _, _⟩ | ⟨e, a, e2, rfl⟩
  · obtain ⟨hso, hpM, henc, _⟩ := decG_good eM
    have f10 : Fr (fun _ => False) h9 (h9.push (.cells [.int .i64 0, .int .i64 0] 0)) := Fr.refl.push
    have hM10 := hM.keep f10 id id
    have hF10 := (hF7.trans' f9).trans' f10
    refine stp ?_
    refine O.call' (gEncode_ok hM10 fun s hs => (hpM s hs).1) (fun r h11 hr => ?_)
    obtain ⟨v11, rfl, ho11, hnew11, f11⟩ := hr
    rw [henc] at ho11
    obtain ⟨a11, c11, rfl, _, _⟩ := id ho11.rd
    refine stp ?_
    refine O.callT (SameBytes_ok (a := b) (b := b) ho11.rd (hw.keep (hF10.trans' f11) fun _ _ => id)) (fun r h12 hr => ?_)
    obtain ⟨rfl, rfl⟩ := hr
    rw [decide_eq_true rfl]
    refine stp ?_
    rfl
  · obtain ⟨he, ha0, ha1⟩ := decG_bad e2
    haveI z1 : ∀ {ts : List Value} {h : Heap} {O : Oper} {x z : Operand} [Ev ts x (.int .i64 e)] [Ev ts z (.int .i64 0)], XOp Try.prog ts h (.bin .neq O x z) (.bool true) h := xneqI1 he
    haveI z2 : ∀ {ts : List Value} {h : Heap} {O : Oper} {x z : Operand} [Ev ts x (.int .i64 a)] [Ev ts z (.int .i64 0)], XOp Try.prog ts h (.bin .geq O x z) (.bool true) h := xgeq1 ha0
    haveI z3 : ∀ {ts : List Value} {h : Heap} {O : Oper} {x z : Operand} [Ev ts x (.int .i64 a)] [Ev ts z (.int .i64 (b.length : Nat))], XOp Try.prog ts h (.bin .leq O x z) (.bool true) h := xleq1 ha1
    refine stp ?_
    rfl
end Go.Proofs.Ytagmnpeilgnbdaa.A

namespace Go.Proofs.Ytagmnpeilgnbdaa.A
open Go Go.Vm
set_option maxRecDepth 100000
set_option linter.unusedVariables false
theorem SigsBack_run (h : Heap) (vs : List Value) (hf : FitsAll Try.prog h 8 [22, 45] vs) : Runs Try.prog T0 (.fn fn_zjQ) vs h (fun r _ => r = .bool true) (fun _ _ => False) := by
  obtain ⟨v1, _, rfl, h1, hf⟩ := hf.cons
  obtain ⟨v2, _, rfl, h2, hf⟩ := hf.cons
  obtain rfl := hf.nil
  obtain ⟨l, hl, hp⟩ := in_sigs h1
  obtain ⟨b, hb⟩ := fits_slice (te := 5) (by kernel_rfl) (by kernel_rfl) (by kernel_rfl) h2
  exact SigsBack_true hl hp hb
end Go.Proofs.Ytagmnpeilgnbdaa.A
