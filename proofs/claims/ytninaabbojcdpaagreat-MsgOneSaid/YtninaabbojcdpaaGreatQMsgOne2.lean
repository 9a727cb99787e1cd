/- Contracts of functions, over the machine. -/
import Derived.Test.YtninaabbojcdpaaGreatQMsgOne1
import Derived.Test.YtninaabbojcdpaaGreatVI
import Derived.Test.YtninaabbojcdpaaGreatVK
import Derived.Test.YtninaabbojcdpaaGreatVJ
noncomputable section
set_option maxRecDepth 100000
set_option linter.unusedVariables false
namespace Go.Proofs.YtninaabbojcdpaaGreat.A
open Go Go.Vm
abbrev fn_znQ : FuncId := 105
def znQ_l0 : ACode :=
 (.seq (.region [
 o1 26 (.bin .lss (so (.binOp .lss 3 (tm 25) (tm 24) 3) 0) (tm 25) (tm 24))]) (.seq (.cond (tm 26)
 .skip
 (.exit 1)) (.seq (.block 2 (.seq (.region [
 o1 27 (.indexSl 2 (tm 23) (tm 25)),
 o1 28 (.load (some 2) (tm 27)),
 o1 5 (.alloc 134 [(.int .i64 0), (.int .u64 0)]),
 o3 (.store 2 (tm 5) (tm 28))]) (.seq (.region [
 o1 29 (.mov (tm 3)),
 o1 30 (.load (some 2) (tm 5)),
 o1 31 (.callV (tm 29) [(tm 30)]),
 o1 6 (.mov (tm 31))]) (.seq (.region [
 o1 32 (.mov (tm 6)),
 o1 33 (.bin .neq (so (.binOp .neq 41 (tm 32) k0 41) 4) (tm 32) k0)]) (.cond (tm 33)
 (.seq (.region [
 o1 34 (.mov (tm 6)),
 o1 2 (.mov (tm 34))]) .ret)
 .skip))))) (.region [
 o1 35 (.bin .add (so (.binOp .add 3 (tm 25) (.const (.int .i64 1)) 3) 3) (tm 25) (.const (.int .i64 1))),
 o1 25 (.mov (tm 35))]))))
def znQ_c : ACode :=
 (.seq (.region [
 o1 1 (.box 33 (tm 0)),
 o1 2 (.mov k0)]) (.seq (.block 0 (.seq (.region [
 o1 8 (.fieldAddr 0 (tm 1)),
 o1 9 (.load none (tm 8)),
 o1 10 (.bin .lss (so (.binOp .lss 3 (tm 9) (.const (.int .i64 1)) 3) 4) (tm 9) (.const (.int .i64 1))),
 o1 11 (.mov (tm 10)),
 o5 12 (.fieldAddr 0 (tm 1)) 11,
 o5 13 (.load none (tm 12)) 11,
 o5 14 (.bin .gtr (so (.binOp .gtr 3 (tm 13) (.const (.int .i64 1073741824)) 3) 4) (tm 13) (.const (.int .i64 1073741824))) 11,
 o1 15 (.pick (tm 11) (.const (.bool true)) (tm 14)),
 o1 7 (.mov (tm 15))]) (.cond (tm 7)
 (.seq (.region [
 o1 2 (.mov (.const (.int .i64 3)))]) .ret)
 (.seq (.region [
 o1 17 (.fieldAddr 33 (tm 1)),
 o1 18 (.load none (tm 17)),
 o1 19 (.lenSl (tm 18)),
 o1 20 (.bin .gtr (so (.binOp .gtr 3 (tm 19) (.const (.int .i64 64)) 3) 4) (tm 19) (.const (.int .i64 64))),
 o1 16 (.mov (tm 20))]) (.cond (tm 16)
 (.seq (.region [
 o1 2 (.mov (.const (.int .i64 4)))]) .ret)
 .skip))))) (.seq (.region [
 o1 21 (.callV (.func 136) []),
 o1 3 (.mov (tm 21))]) (.seq (.seq (.region [
 o1 22 (.fieldAddr 33 (tm 1)),
 o1 23 (.load none (tm 22)),
 o1 24 (.lenSl (tm 23)),
 o1 25 (.mov k0)]) (.block 1 (.loop znQ_l0))) (.seq (.region [
 o1 2 (.mov k0)]) .ret)))))
def znQ : AFunc := ⟨36, [(2, none)], znQ_c, none⟩
theorem znQ_t0 : tableOf Tryz.prog 105 = some znQ := by kernel_rfl
theorem znQ_t : T0 105 = some znQ := withKept_t rfl (withTrue_t rfl znQ_t0)
theorem znQ_runs {v0 : Value} {h : Heap} {R : RP} {X : XP} (k : RunC Tryz.prog T0 znQ_c ⟨[v0, U, U, U, U, U, U, U, U, U, U, U, U, U, U, U, U, U, U, U, U, U, U, U, U, U, U, U, U, U, U, U, U, U, U, U], [], h, none⟩ (bodyQ Tryz.prog T0 [(2, none)] R X)) :
 Runs Tryz.prog T0 (.fn 105) [v0] h R X := Runs.fn znQ_t rfl k
def znQ_l0_J (f0 f1 f3 f4 f7 f8 f9 f10 f11 f12 f13 f14 f15 f16 f17 f18 f19 f20 f21 f22 f23 f24 : Value) (ds : List Deferred) (rd : Option Nat) (I : Nat → Value → Heap → Prop) (m : Nat) (s : St) : Prop := ∃ (v25 : Value), ∃ h : Heap, ∃ (x2 x5 x6 x26 x27 x28 x29 x30 x31 x32 x33 x34 x35 : Value), s = ⟨[f0, f1, x2, f3, f4, x5, x6, f7, f8, f9, f10, f11, f12, f13, f14, f15, f16, f17, f18, f19, f20, f21, f22, f23, f24, v25, x26, x27, x28, x29, x30, x31, x32, x33, x34, x35], ds, h, rd⟩ ∧ I m v25 h
theorem znQ_l0_rule {f0 f1 f3 f4 f7 f8 f9 f10 f11 f12 f13 f14 f15 f16 f17 f18 f19 f20 f21 f22 f23 f24 : Value} {ds : List Deferred} {rd : Option Nat} {Q : QP} (I : Nat → Value → Heap → Prop) (hb : ∀ (m : Nat) (v25 : Value) (h : Heap) (x2 x5 x6 x26 x27 x28 x29 x30 x31 x32 x33 x34 x35 : Value) , I m v25 h → RunC Tryz.prog T0 znQ_l0 ⟨[f0, f1, x2, f3, f4, x5, x6, f7, f8, f9, f10, f11, f12, f13, f14, f15, f16, f17, f18, f19, f20, f21, f22, f23, f24, v25, x26, x27, x28, x29, x30, x31, x32, x33, x34, x35], ds, h, rd⟩ (loopQ (znQ_l0_J f0 f1 f3 f4 f7 f8 f9 f10 f11 f12 f13 f14 f15 f16 f17 f18 f19 f20 f21 f22 f23 f24 ds rd I) m Q))
 (m : Nat) {v25 : Value} {h : Heap} {x2 x5 x6 x26 x27 x28 x29 x30 x31 x32 x33 x34 x35 : Value} (hi : I m v25 h) : RunC Tryz.prog T0 (.loop znQ_l0) ⟨[f0, f1, x2, f3, f4, x5, x6, f7, f8, f9, f10, f11, f12, f13, f14, f15, f16, f17, f18, f19, f20, f21, f22, f23, f24, v25, x26, x27, x28, x29, x30, x31, x32, x33, x34, x35], ds, h, rd⟩ Q :=
 RunC.loopJ (znQ_l0_J f0 f1 f3 f4 f7 f8 f9 f10 f11 f12 f13 f14 f15 f16 f17 f18 f19 f20 f21 f22 f23 f24 ds rd I) (fun m s hj => by obtain ⟨v25, h, x2, x5, x6, x26, x27, x28, x29, x30, x31, x32, x33, x34, x35, rfl, hi⟩ := hj; exact hb m v25 h x2 x5 x6 x26 x27 x28 x29 x30 x31 x32 x33 x34 x35 hi) m _ ⟨_, h, _, _, _, _, _, _, _, _, _, _, _, _, _, rfl, hi⟩
theorem znQ_l0_again {f0 f1 f3 f4 f7 f8 f9 f10 f11 f12 f13 f14 f15 f16 f17 f18 f19 f20 f21 f22 f23 f24 : Value} {ds : List Deferred} {rd : Option Nat} {Q : QP} {I : Nat → Value → Heap → Prop} {m : Nat} (m' : Nat) {v25 : Value} {h : Heap} {x2 x5 x6 x26 x27 x28 x29 x30 x31 x32 x33 x34 x35 : Value} (hm : m' < m) (hi : I m' v25 h) : loopQ (znQ_l0_J f0 f1 f3 f4 f7 f8 f9 f10 f11 f12 f13 f14 f15 f16 f17 f18 f19 f20 f21 f22 f23 f24 ds rd I) m Q .normal ⟨[f0, f1, x2, f3, f4, x5, x6, f7, f8, f9, f10, f11, f12, f13, f14, f15, f16, f17, f18, f19, f20, f21, f22, f23, f24, v25, x26, x27, x28, x29, x30, x31, x32, x33, x34, x35], ds, h, rd⟩ :=
 loopQ.again m' hm ⟨_, h, _, _, _, _, _, _, _, _, _, _, _, _, _, rfl, hi⟩
abbrev fn_zmdQ : FuncId := 106
def zmdQ_c : ACode :=
 (.seq (.region [
 o1 4 (.mov k0)]) (.seq (.region [
 o1 5 (.mov (tm 0)),
 o1 6 (.mov (tm 1)),
 o1 7 (.strToBytes 5 (tm 6)),
 o1 8 (.callV (.func 69) [(tm 5), (tm 7)]),
 o1 4 (.mov (tm 8))]) .ret))
def zmdQ : AFunc := ⟨9, [(4, none)], zmdQ_c, none⟩
theorem zmdQ_t0 : tableOf Tryz.prog 106 = some zmdQ := by kernel_rfl
theorem zmdQ_t : T0 106 = some zmdQ := withKept_t rfl (withTrue_t rfl zmdQ_t0)
theorem zmdQ_runs {v0 v1 : Value} {h : Heap} {R : RP} {X : XP} (k : RunC Tryz.prog T0 zmdQ_c ⟨[v0, v1, U, U, U, U, U, U, U], [], h, none⟩ (bodyQ Tryz.prog T0 [(4, none)] R X)) :
 Runs Tryz.prog T0 (.fn 106) [v0, v1] h R X := Runs.fn zmdQ_t rfl k
abbrev fn_zldQ : FuncId := 107
def zldQ_c : ACode :=
 (.seq (.region [
 o1 4 (.mov k0)]) (.seq (.region [
 o1 5 (.mov (tm 0)),
 o1 6 (.mov (tm 1)),
 o1 7 (.bin .geq (so (.binOp .geq 3 (tm 6) k0 3) 4) (tm 6) k0),
 o1 8 (.mov (tm 1)),
 o1 9 (.raw (so (.call ⟨.builtin .max, #[(tm 8), k0], #[3, 3]⟩) 3)),
 o1 10 (.callV (.func 113) [(tm 9)]),
 o1 11 (.buildSlice 22 [(.slice none 0 0)] 1 [(0, 1, (tm 10))]),
 o1 12 (.callV (.func 112) [(tm 5), (tm 7), (tm 11)]),
 o1 4 (.mov (tm 12))]) .ret))
def zldQ : AFunc := ⟨13, [(4, none)], zldQ_c, none⟩
theorem zldQ_t0 : tableOf Tryz.prog 107 = some zldQ := by kernel_rfl
theorem zldQ_t : T0 107 = some zldQ := withKept_t rfl (withTrue_t rfl zldQ_t0)
theorem zldQ_runs {v0 v1 : Value} {h : Heap} {R : RP} {X : XP} (k : RunC Tryz.prog T0 zldQ_c ⟨[v0, v1, U, U, U, U, U, U, U, U, U, U, U], [], h, none⟩ (bodyQ Tryz.prog T0 [(4, none)] R X)) :
 Runs Tryz.prog T0 (.fn 107) [v0, v1] h R X := Runs.fn zldQ_t rfl k
abbrev fn_zxQ : FuncId := 108
def zxQ_c : ACode :=
 (.seq (.region [
 o1 2 (.alloc 152 [(.pointer none), (.pointer none), (.pointer none), (.pointer none)])]) (.seq (.regionD [
 o1 3 (.mov (tm 0)),
 o1 4 (.nilCheck (tm 3)),
 o1 5 (.fieldAddr 3 (tm 4)),
 o1 6 (.mov (tm 0)),
 o1 7 (.nilCheck (tm 6)),
 o1 8 (.fieldAddr 35 (tm 7)),
 o1 9 (.mov (tm 0)),
 o1 10 (.nilCheck (tm 9)),
 o1 11 (.fieldAddr 67 (tm 10)),
 o1 12 (.mov (tm 0)),
 o1 13 (.nilCheck (tm 12)),
 o1 14 (.fieldAddr 99 (tm 13)),
 o2 15 (.build [(.pointer none), (.pointer none), (.pointer none), (.pointer none)] [(0, 1, (tm 5)), (1, 1, (tm 8)), (2, 1, (tm 11)), (3, 1, (tm 14))]),
 ⟨none, .store 4 (tm 2) (tm 15), none, [], true⟩]) .ret))
def zxQ : AFunc := ⟨16, [(2, some (some 4))], zxQ_c, none⟩
theorem zxQ_t0 : tableOf Tryz.prog 108 = some zxQ := by kernel_rfl
theorem zxQ_t : T0 108 = some zxQ := withKept_t rfl (withTrue_t rfl zxQ_t0)
theorem zxQ_runs {v0 : Value} {h : Heap} {R : RP} {X : XP} (k : RunC Tryz.prog T0 zxQ_c ⟨[v0, U, U, U, U, U, U, U, U, U, U, U, U, U, U, U], [], h, none⟩ (bodyQ Tryz.prog T0 [(2, some (some 4))] R X)) :
 Runs Tryz.prog T0 (.fn 108) [v0] h R X := Runs.fn zxQ_t rfl k
abbrev fn_zjdQ : FuncId := 109
def zjdQ_c : ACode :=
 (.seq (.region [
 o1 3 (.box 28 (tm 1)),
 o1 4 (.mov k0)]) (.seq (.region [
 o1 5 (.mov (tm 0)),
 o1 6 (.sliceArr 32 1 (tm 3) none none),
 o1 7 (.buildSlice 22 [(.slice none 0 0)] 1 [(0, 1, (tm 6))]),
 o1 8 (.callV (.func 112) [(tm 5), (.const (.bool true)), (tm 7)]),
 o1 4 (.mov (tm 8))]) .ret))
def zjdQ : AFunc := ⟨9, [(4, none)], zjdQ_c, none⟩
theorem zjdQ_t0 : tableOf Tryz.prog 109 = some zjdQ := by kernel_rfl
theorem zjdQ_t : T0 109 = some zjdQ := withKept_t rfl (withTrue_t rfl zjdQ_t0)
theorem zjdQ_runs {v0 v1 : Value} {h : Heap} {R : RP} {X : XP} (k : RunC Tryz.prog T0 zjdQ_c ⟨[v0, v1, U, U, U, U, U, U, U], [], h, none⟩ (bodyQ Tryz.prog T0 [(4, none)] R X)) :
 Runs Tryz.prog T0 (.fn 109) [v0, v1] h R X := Runs.fn zjdQ_t rfl k
abbrev fn_zndQ : FuncId := 110
def zndQ_c : ACode :=
 (.seq (.region [
 o1 4 (.mov k0)]) (.seq (.region [
 o1 6 (.mov (tm 1)),
 o1 7 (.callV (.func 137) [(tm 6)]),
 o1 5 (.alloc 181 [(.int .u8 0), (.int .u8 0), (.int .u8 0), (.int .u8 0), (.int .u8 0), (.int .u8 0), (.int .u8 0), (.int .u8 0)]),
 o3 (.store 8 (tm 5) (tm 7))]) (.seq (.region [
 o1 8 (.mov (tm 0)),
 o1 9 (.sliceArr 8 1 (tm 5) none none),
 o1 10 (.buildSlice 22 [(.slice none 0 0)] 1 [(0, 1, (tm 9))]),
 o1 11 (.callV (.func 112) [(tm 8), (.const (.bool true)), (tm 10)]),
 o1 4 (.mov (tm 11))]) .ret)))
def zndQ : AFunc := ⟨12, [(4, none)], zndQ_c, none⟩
theorem zndQ_t0 : tableOf Tryz.prog 110 = some zndQ := by kernel_rfl
theorem zndQ_t : T0 110 = some zndQ := withKept_t rfl (withTrue_t rfl zndQ_t0)
theorem zndQ_runs {v0 v1 : Value} {h : Heap} {R : RP} {X : XP} (k : RunC Tryz.prog T0 zndQ_c ⟨[v0, v1, U, U, U, U, U, U, U, U, U, U], [], h, none⟩ (bodyQ Tryz.prog T0 [(4, none)] R X)) :
 Runs Tryz.prog T0 (.fn 110) [v0, v1] h R X := Runs.fn zndQ_t rfl k
abbrev fn_zkdQ : FuncId := 111
def zkdQ_c : ACode :=
 (.seq (.region [
 o1 3 (.box 130 (tm 1)),
 o1 4 (.mov k0)]) (.seq (.region [
 o1 5 (.mov (tm 0)),
 o1 6 (.sliceArr 4 1 (tm 3) none none),
 o1 7 (.buildSlice 22 [(.slice none 0 0)] 1 [(0, 1, (tm 6))]),
 o1 8 (.callV (.func 112) [(tm 5), (.const (.bool true)), (tm 7)]),
 o1 4 (.mov (tm 8))]) .ret))
def zkdQ : AFunc := ⟨9, [(4, none)], zkdQ_c, none⟩
theorem zkdQ_t0 : tableOf Tryz.prog 111 = some zkdQ := by kernel_rfl
theorem zkdQ_t : T0 111 = some zkdQ := withKept_t rfl (withTrue_t rfl zkdQ_t0)
theorem zkdQ_runs {v0 v1 : Value} {h : Heap} {R : RP} {X : XP} (k : RunC Tryz.prog T0 zkdQ_c ⟨[v0, v1, U, U, U, U, U, U, U], [], h, none⟩ (bodyQ Tryz.prog T0 [(4, none)] R X)) :
 Runs Tryz.prog T0 (.fn 111) [v0, v1] h R X := Runs.fn zkdQ_t rfl k
abbrev fn_zodQ : FuncId := 112
def zodQ_c : ACode :=
 (.seq (.region [
 o1 6 (.mov k0)]) (.seq (.seq (.region [
 o1 8 (.mov (tm 0)),
 o1 9 (.eq .ptr false (so (.binOp .eql 103 (tm 8) (.const (.pointer none)) 103) 4) (tm 8) (.const (.pointer none))),
 o1 10 (.mov (tm 9)),
 o5 11 (.mov (tm 0)) 10,
 o5 12 (.nilCheck (tm 11)) 10,
 o5 13 (.fieldAddr 3 (tm 12)) 10,
 o5 14 (.load none (tm 13)) 10,
 o5 15 (.raw (so (.unOp .not 4 (tm 14)) 4)) 10,
 o1 16 (.pick (tm 10) (.const (.bool true)) (tm 15))]) (.cond (tm 16)
 (.seq (.region [
 o1 6 (.mov (.const (.int .i64 1)))]) .ret)
 .skip)) (.seq (.region [
 o1 17 (.mov (tm 2)),
 o1 18 (.callV (.func 138) [(tm 17)]),
 o1 7 (.mov (tm 18))]) (.seq (.block 0 (.seq (.region [
 o1 29 (.mov (tm 0)),
 o1 30 (.nilCheck (tm 29)),
 o1 31 (.fieldAddr 2 (tm 30)),
 o1 32 (.load none (tm 31)),
 o1 33 (.bin .neq (so (.binOp .neq 41 (tm 32) k0 41) 4) (tm 32) k0),
 o1 28 (.mov (tm 33))]) (.cond (tm 28)
 .skip
 (.seq (.region [
 o1 35 (.mov (tm 1)),
 o1 36 (.raw (so (.unOp .not 4 (tm 35)) 4)),
 o1 34 (.mov (tm 36))]) (.cond (tm 34)
 (.region [
 o1 37 (.mov (tm 0)),
 o1 38 (.nilCheck (tm 37)),
 o1 39 (.fieldAddr 2 (tm 38)),
 o3 (.store 1 (tm 39) (.const (.int .i64 3)))])
 (.seq (.regionD [
 o1 41 (.mov (tm 0)),
 o1 42 (.nilCheck (tm 41)),
 o1 43 (.fieldAddr 1 (tm 42)),
 o1 44 (.load none (tm 43)),
 o1 45 (.lenSl (tm 44)),
 o1 46 (.mov (tm 7)),
 o1 47 (.lenSl (tm 46)),
 o1 48 (.bin .add (so (.binOp .add 3 (tm 45) (tm 47) 3) 3) (tm 45) (tm 47)),
 o1 49 (.mov (tm 0)),
 o1 50 (.nilCheck (tm 49)),
 o1 51 (.fieldAddr 0 (tm 50)),
 o1 52 (.load none (tm 51)),
 o2 53 (.bin .gtr (so (.binOp .gtr 3 (tm 48) (tm 52) 3) 4) (tm 48) (tm 52)),
 o2 40 (.mov (tm 53))]) (.cond (tm 40)
 (.region [
 o1 54 (.mov (tm 0)),
 o1 55 (.nilCheck (tm 54)),
 o1 56 (.fieldAddr 2 (tm 55)),
 o3 (.store 1 (tm 56) (.const (.int .i64 4)))])
 (.region [
 o1 19 (.mov (tm 0)),
 o1 20 (.mov (tm 0)),
 o1 21 (.nilCheck (tm 20)),
 o1 22 (.fieldAddr 1 (tm 21)),
 o1 23 (.load none (tm 22)),
 o1 24 (.mov (tm 7)),
 o1 25 (.append 5 1 1 [(.int .u8 0)] false (tm 23) (tm 24)),
 o1 26 (.nilCheck (tm 19)),
 o1 27 (.fieldAddr 1 (tm 26)),
 o3 (.store 1 (tm 27) (tm 25))])))))))) (.seq (.region [
 o1 57 (.mov (tm 0)),
 o1 58 (.nilCheck (tm 57)),
 o1 59 (.fieldAddr 2 (tm 58)),
 o1 60 (.load none (tm 59)),
 o1 6 (.mov (tm 60))]) .ret)))))
def zodQ : AFunc := ⟨61, [(6, none)], zodQ_c, none⟩
theorem zodQ_t0 : tableOf Tryz.prog 112 = some zodQ := by kernel_rfl
theorem zodQ_t : T0 112 = some zodQ := withKept_t rfl (withTrue_t rfl zodQ_t0)
theorem zodQ_runs {v0 v1 v2 : Value} {h : Heap} {R : RP} {X : XP} (k : RunC Tryz.prog T0 zodQ_c ⟨[v0, v1, v2, U, U, U, U, U, U, U, U, U, U, U, U, U, U, U, U, U, U, U, U, U, U, U, U, U, U, U, U, U, U, U, U, U, U, U, U, U, U, U, U, U, U, U, U, U, U, U, U, U, U, U, U, U, U, U, U, U, U], [], h, none⟩ (bodyQ Tryz.prog T0 [(6, none)] R X)) :
 Runs Tryz.prog T0 (.fn 112) [v0, v1, v2] h R X := Runs.fn zodQ_t rfl k
abbrev fn_zrdQ : FuncId := 113
def zrdQ_l0 : ACode :=
 (.seq (.seq (.region [
 o1 5 (.mov (tm 0)),
 o1 6 (.bin .gtr (so (.binOp .gtr 3 (tm 5) k0 3) 4) (tm 5) k0)]) (.cond (tm 6)
 .skip
 (.exit 0))) (.seq (.block 1 (.seq (.region [
 o1 9 (.mov (tm 4)),
 o1 10 (.bin .sub (so (.binOp .sub 3 (.const (.int .i64 8)) (tm 9) 3) 3) (.const (.int .i64 8)) (tm 9)),
 o1 11 (.mov (tm 0)),
 o1 12 (.conv .u8 (so (.convert 3 5 (tm 11)) 5) (tm 11)),
 o1 13 (.indexArr 9 1 (tm 3) (tm 10)),
 o3 (.store 1 (tm 13) (tm 12))]) (.region [
 o1 14 (.mov (tm 4)),
 o1 15 (.bin .add (so (.binOp .add 3 (tm 14) (.const (.int .i64 1)) 3) 3) (tm 14) (.const (.int .i64 1))),
 o1 4 (.mov (tm 15))]))) (.region [
 o1 7 (.mov (tm 0)),
 o1 8 (.bin .shr (so (.binOp .shr 3 (tm 7) (.const (.int .u64 8)) 125) 3) (tm 7) (.const (.int .u64 8))),
 o1 0 (.mov (tm 8))])))
def zrdQ_c : ACode :=
 (.seq (.region [
 o1 2 (.mov (.const (.slice none 0 0)))]) (.seq (.region [
 o1 3 (.alloc 185 [(.int .u8 0), (.int .u8 0), (.int .u8 0), (.int .u8 0), (.int .u8 0), (.int .u8 0), (.int .u8 0), (.int .u8 0), (.int .u8 0)])]) (.seq (.region [
 o1 4 (.mov k0)]) (.seq (.block 0 (.loop zrdQ_l0)) (.seq (.region [
 o1 16 (.mov (tm 4)),
 o1 17 (.bin .sub (so (.binOp .sub 3 (.const (.int .i64 8)) (tm 16) 3) 3) (.const (.int .i64 8)) (tm 16)),
 o1 18 (.mov (tm 4)),
 o1 19 (.conv .u8 (so (.convert 3 5 (tm 18)) 5) (tm 18)),
 o1 20 (.indexArr 9 1 (tm 3) (tm 17)),
 o3 (.store 1 (tm 20) (tm 19))]) (.seq (.region [
 o1 21 (.mov (tm 4)),
 o1 22 (.bin .sub (so (.binOp .sub 3 (.const (.int .i64 8)) (tm 21) 3) 3) (.const (.int .i64 8)) (tm 21)),
 o1 23 (.sliceArr 9 1 (tm 3) (some (tm 22)) none),
 o1 2 (.mov (tm 23))]) .ret))))))
def zrdQ : AFunc := ⟨24, [(2, none)], zrdQ_c, none⟩
theorem zrdQ_t0 : tableOf Tryz.prog 113 = some zrdQ := by kernel_rfl
theorem zrdQ_t : T0 113 = some zrdQ := withKept_t rfl (withTrue_t rfl zrdQ_t0)
theorem zrdQ_runs {v0 : Value} {h : Heap} {R : RP} {X : XP} (k : RunC Tryz.prog T0 zrdQ_c ⟨[v0, U, U, U, U, U, U, U, U, U, U, U, U, U, U, U, U, U, U, U, U, U, U, U], [], h, none⟩ (bodyQ Tryz.prog T0 [(2, none)] R X)) :
 Runs Tryz.prog T0 (.fn 113) [v0] h R X := Runs.fn zrdQ_t rfl k
def zrdQ_l0_J (f1 f2 f3 f16 f17 f18 f19 f20 f21 f22 f23 : Value) (ds : List Deferred) (rd : Option Nat) (I : Nat → Value → Value → Heap → Prop) (m : Nat) (s : St) : Prop := ∃ (v0 v4 : Value), ∃ h : Heap, ∃ (x5 x6 x7 x8 x9 x10 x11 x12 x13 x14 x15 : Value), s = ⟨[v0, f1, f2, f3, v4, x5, x6, x7, x8, x9, x10, x11, x12, x13, x14, x15, f16, f17, f18, f19, f20, f21, f22, f23], ds, h, rd⟩ ∧ I m v0 v4 h
theorem zrdQ_l0_rule {f1 f2 f3 f16 f17 f18 f19 f20 f21 f22 f23 : Value} {ds : List Deferred} {rd : Option Nat} {Q : QP} (I : Nat → Value → Value → Heap → Prop) (hb : ∀ (m : Nat) (v0 v4 : Value) (h : Heap) (x5 x6 x7 x8 x9 x10 x11 x12 x13 x14 x15 : Value) , I m v0 v4 h → RunC Tryz.prog T0 zrdQ_l0 ⟨[v0, f1, f2, f3, v4, x5, x6, x7, x8, x9, x10, x11, x12, x13, x14, x15, f16, f17, f18, f19, f20, f21, f22, f23], ds, h, rd⟩ (loopQ (zrdQ_l0_J f1 f2 f3 f16 f17 f18 f19 f20 f21 f22 f23 ds rd I) m Q))
 (m : Nat) {v0 v4 : Value} {h : Heap} {x5 x6 x7 x8 x9 x10 x11 x12 x13 x14 x15 : Value} (hi : I m v0 v4 h) : RunC Tryz.prog T0 (.loop zrdQ_l0) ⟨[v0, f1, f2, f3, v4, x5, x6, x7, x8, x9, x10, x11, x12, x13, x14, x15, f16, f17, f18, f19, f20, f21, f22, f23], ds, h, rd⟩ Q :=
 RunC.loopJ (zrdQ_l0_J f1 f2 f3 f16 f17 f18 f19 f20 f21 f22 f23 ds rd I) (fun m s hj => by obtain ⟨v0, v4, h, x5, x6, x7, x8, x9, x10, x11, x12, x13, x14, x15, rfl, hi⟩ := hj; exact hb m v0 v4 h x5 x6 x7 x8 x9 x10 x11 x12 x13 x14 x15 hi) m _ ⟨_, _, h, _, _, _, _, _, _, _, _, _, _, _, rfl, hi⟩
theorem zrdQ_l0_again {f1 f2 f3 f16 f17 f18 f19 f20 f21 f22 f23 : Value} {ds : List Deferred} {rd : Option Nat} {Q : QP} {I : Nat → Value → Value → Heap → Prop} {m : Nat} (m' : Nat) {v0 v4 : Value} {h : Heap} {x5 x6 x7 x8 x9 x10 x11 x12 x13 x14 x15 : Value} (hm : m' < m) (hi : I m' v0 v4 h) : loopQ (zrdQ_l0_J f1 f2 f3 f16 f17 f18 f19 f20 f21 f22 f23 ds rd I) m Q .normal ⟨[v0, f1, f2, f3, v4, x5, x6, x7, x8, x9, x10, x11, x12, x13, x14, x15, f16, f17, f18, f19, f20, f21, f22, f23], ds, h, rd⟩ :=
 loopQ.again m' hm ⟨_, _, h, _, _, _, _, _, _, _, _, _, _, _, rfl, hi⟩
abbrev fn_zedQ : FuncId := 114
def zedQ_c : ACode :=
 (.seq (.region [
 o1 5 (.recover),
 o1 2 (.mov (tm 5))]) (.seq (.region [
 o1 6 (.mov (tm 2)),
 o1 7 (.eq .iface true (so (.binOp .neq 20 (tm 6) (.const .nilIface) 20) 4) (tm 6) (.const .nilIface))]) (.cond (tm 7)
 (.seq (.region [
 o1 9 (.mov (tm 2)),
 o1 10 (.assertTo 162 (.agg ⟨[(.int .i64 0), (.int .i64 0)]⟩) true (tm 9)),
 o1 8 (.mov (tm 10)),
 o1 11 (.extract 0 (tm 8)),
 o1 12 (.extract 1 (tm 8)),
 o1 3 (.alloc 162 [(.int .i64 0), (.int .i64 0)]),
 o3 (.store 2 (tm 3) (tm 11)),
 o1 4 (.mov (tm 12))]) (.seq (.seq (.region [
 o1 13 (.mov (tm 4)),
 o1 14 (.raw (so (.unOp .not 4 (tm 13)) 4))]) (.cond (tm 14)
 (.region [
 o1 15 (.mov (tm 2)),
 o3 (.panic (tm 15))])
 .skip)) (.region [
 o1 16 (.mov (tm 0)),
 o1 17 (.fieldAddr 0 (tm 3)),
 o1 18 (.load (some 2) (tm 17)),
 o1 19 (.nilCheck (tm 16)),
 o1 20 (.fieldAddr 2 (tm 19)),
 o3 (.store 2 (tm 20) (tm 18))])))
 .skip)))
def zedQ : AFunc := ⟨21, [], zedQ_c, none⟩
theorem zedQ_t0 : tableOf Tryz.prog 114 = some zedQ := by kernel_rfl
theorem zedQ_t : T0 114 = some zedQ := withKept_t rfl (withTrue_t rfl zedQ_t0)
theorem zedQ_df {v0 : Value} {u : FrameMode} {h : Heap} {R : FrameMode → Heap → Prop} {X : List PanicEntry → FrameMode → Heap → Prop} (k : RunT Tryz.prog T0 zedQ_c ⟨⟨[v0, U, U, U, U, U, U, U, U, U, U, U, U, U, U, U, U, U, U, U, U], [], h, none⟩, u⟩ (doneQ [] R X)) :
 RunDf Tryz.prog T0 114 [v0] u h R X := RunDf.fn zedQ_t rfl k
abbrev fn_zaeQ : FuncId := 115
def zaeQ_c : ACode :=
 (.seq (.region [
 o1 8 (.mov (.const (.int .u64 0)))]) (.seq (.regionD [
 o1 9 (.mov (tm 1)),
 o1 10 (.mov (tm 0)),
 o1 11 (.nilCheck (tm 10)),
 o1 12 (.fieldAddr 0 (tm 11)),
 o1 13 (.load none (tm 12)),
 o1 14 (.lenSl (tm 13)),
 o1 15 (.mov (tm 0)),
 o1 16 (.nilCheck (tm 15)),
 o1 17 (.fieldAddr 1 (tm 16)),
 o1 18 (.load none (tm 17)),
 o1 19 (.bin .sub (so (.binOp .sub 3 (tm 14) (tm 18) 3) 3) (tm 14) (tm 18)),
 o1 20 (.bin .leq (so (.binOp .leq 3 (tm 9) (tm 19) 3) 4) (tm 9) (tm 19)),
 o1 21 (.mov (tm 2)),
 o2 22 (.callV (.func 78) [(tm 20), (.const (.int .i64 6)), (tm 21)])]) (.seq (.region [
 o1 23 (.mov (tm 0)),
 o1 24 (.nilCheck (tm 23)),
 o1 25 (.fieldAddr 1 (tm 24)),
 o1 26 (.load none (tm 25)),
 o1 27 (.mov (tm 1)),
 o1 28 (.bin .add (so (.binOp .add 3 (tm 26) (tm 27) 3) 3) (tm 26) (tm 27)),
 o1 29 (.nilCheck (tm 23)),
 o1 30 (.fieldAddr 1 (tm 29)),
 o3 (.store 1 (tm 30) (tm 28))]) (.seq (.regionD [
 o1 31 (.mov (tm 3)),
 o1 32 (.mov (tm 0)),
 o1 33 (.nilCheck (tm 32)),
 o1 34 (.fieldAddr 0 (tm 33)),
 o1 35 (.load none (tm 34)),
 o1 36 (.mov (tm 0)),
 o1 37 (.nilCheck (tm 36)),
 o1 38 (.fieldAddr 1 (tm 37)),
 o1 39 (.load none (tm 38)),
 o1 40 (.mov (tm 1)),
 o1 41 (.bin .sub (so (.binOp .sub 3 (tm 39) (tm 40) 3) 3) (tm 39) (tm 40)),
 o1 42 (.mov (tm 0)),
 o1 43 (.nilCheck (tm 42)),
 o1 44 (.fieldAddr 1 (tm 43)),
 o1 45 (.load none (tm 44)),
 o1 46 (.sliceSl 1 (tm 35) (some (tm 41)) (some (tm 45)) none),
 o2 47 (.callV (tm 31) [(tm 46)]),
 o2 8 (.mov (tm 47))]) .ret))))
def zaeQ : AFunc := ⟨48, [(8, none)], zaeQ_c, none⟩
theorem zaeQ_t0 : tableOf Tryz.prog 115 = some zaeQ := by kernel_rfl
theorem zaeQ_t : T0 115 = some zaeQ := withKept_t rfl (withTrue_t rfl zaeQ_t0)
theorem zaeQ_runs {v0 v1 v2 v3 : Value} {h : Heap} {R : RP} {X : XP} (k : RunC Tryz.prog T0 zaeQ_c ⟨[v0, v1, v2, v3, U, U, U, U, U, U, U, U, U, U, U, U, U, U, U, U, U, U, U, U, U, U, U, U, U, U, U, U, U, U, U, U, U, U, U, U, U, U, U, U, U, U, U, U], [], h, none⟩ (bodyQ Tryz.prog T0 [(8, none)] R X)) :
 Runs Tryz.prog T0 (.fn 115) [v0, v1, v2, v3] h R X := Runs.fn zaeQ_t rfl k
abbrev fn_zpdQ : FuncId := 116
def zpdQ_l0 : ACode :=
 (.seq (.region [
 o1 8 (.bin .lss (so (.binOp .lss 3 (tm 7) (tm 6) 3) 0) (tm 7) (tm 6))]) (.seq (.cond (tm 8)
 .skip
 (.exit 0)) (.seq (.block 1 (.seq (.region [
 o1 9 (.indexSl 1 (tm 5) (tm 7)),
 o1 10 (.load none (tm 9)),
 o1 4 (.mov (tm 10))]) (.region [
 o1 11 (.mov (tm 2)),
 o1 12 (.bin .shl (so (.binOp .shl 124 (tm 11) (.const (.int .u64 8)) 125) 124) (tm 11) (.const (.int .u64 8))),
 o1 13 (.mov (tm 4)),
 o1 14 (.conv .u64 (so (.convert 5 124 (tm 13)) 124) (tm 13)),
 o1 15 (.bin .or (so (.binOp .or 124 (tm 12) (tm 14) 124) 124) (tm 12) (tm 14)),
 o1 2 (.mov (tm 15))]))) (.region [
 o1 16 (.bin .add (so (.binOp .add 3 (tm 7) (.const (.int .i64 1)) 3) 3) (tm 7) (.const (.int .i64 1))),
 o1 7 (.mov (tm 16))]))))
def zpdQ_c : ACode :=
 (.seq (.region [
 o1 2 (.mov (.const (.int .u64 0)))]) (.seq (.seq (.region [
 o1 5 (.mov (tm 0)),
 o1 6 (.lenSl (tm 5)),
 o1 7 (.mov k0)]) (.block 0 (.loop zpdQ_l0))) (.seq (.region [
 o1 17 (.mov (tm 2)),
 o1 2 (.mov (tm 17))]) .ret)))
def zpdQ : AFunc := ⟨18, [(2, none)], zpdQ_c, none⟩
theorem zpdQ_t0 : tableOf Tryz.prog 116 = some zpdQ := by kernel_rfl
theorem zpdQ_t : T0 116 = some zpdQ := withKept_t rfl (withTrue_t rfl zpdQ_t0)
theorem zpdQ_runs {v0 : Value} {h : Heap} {R : RP} {X : XP} (k : RunC Tryz.prog T0 zpdQ_c ⟨[v0, U, U, U, U, U, U, U, U, U, U, U, U, U, U, U, U, U], [], h, none⟩ (bodyQ Tryz.prog T0 [(2, none)] R X)) :
 Runs Tryz.prog T0 (.fn 116) [v0] h R X := Runs.fn zpdQ_t rfl k
def zpdQ_l0_J (f0 f1 f3 f5 f6 f17 : Value) (ds : List Deferred) (rd : Option Nat) (I : Nat → Value → Value → Heap → Prop) (m : Nat) (s : St) : Prop := ∃ (v2 v7 : Value), ∃ h : Heap, ∃ (x4 x8 x9 x10 x11 x12 x13 x14 x15 x16 : Value), s = ⟨[f0, f1, v2, f3, x4, f5, f6, v7, x8, x9, x10, x11, x12, x13, x14, x15, x16, f17], ds, h, rd⟩ ∧ I m v2 v7 h
theorem zpdQ_l0_rule {f0 f1 f3 f5 f6 f17 : Value} {ds : List Deferred} {rd : Option Nat} {Q : QP} (I : Nat → Value → Value → Heap → Prop) (hb : ∀ (m : Nat) (v2 v7 : Value) (h : Heap) (x4 x8 x9 x10 x11 x12 x13 x14 x15 x16 : Value) , I m v2 v7 h → RunC Tryz.prog T0 zpdQ_l0 ⟨[f0, f1, v2, f3, x4, f5, f6, v7, x8, x9, x10, x11, x12, x13, x14, x15, x16, f17], ds, h, rd⟩ (loopQ (zpdQ_l0_J f0 f1 f3 f5 f6 f17 ds rd I) m Q))
 (m : Nat) {v2 v7 : Value} {h : Heap} {x4 x8 x9 x10 x11 x12 x13 x14 x15 x16 : Value} (hi : I m v2 v7 h) : RunC Tryz.prog T0 (.loop zpdQ_l0) ⟨[f0, f1, v2, f3, x4, f5, f6, v7, x8, x9, x10, x11, x12, x13, x14, x15, x16, f17], ds, h, rd⟩ Q :=
 RunC.loopJ (zpdQ_l0_J f0 f1 f3 f5 f6 f17 ds rd I) (fun m s hj => by obtain ⟨v2, v7, h, x4, x8, x9, x10, x11, x12, x13, x14, x15, x16, rfl, hi⟩ := hj; exact hb m v2 v7 h x4 x8 x9 x10 x11 x12 x13 x14 x15 x16 hi) m _ ⟨_, _, h, _, _, _, _, _, _, _, _, _, _, rfl, hi⟩
theorem zpdQ_l0_again {f0 f1 f3 f5 f6 f17 : Value} {ds : List Deferred} {rd : Option Nat} {Q : QP} {I : Nat → Value → Value → Heap → Prop} {m : Nat} (m' : Nat) {v2 v7 : Value} {h : Heap} {x4 x8 x9 x10 x11 x12 x13 x14 x15 x16 : Value} (hm : m' < m) (hi : I m' v2 v7 h) : loopQ (zpdQ_l0_J f0 f1 f3 f5 f6 f17 ds rd I) m Q .normal ⟨[f0, f1, v2, f3, x4, f5, f6, v7, x8, x9, x10, x11, x12, x13, x14, x15, x16, f17], ds, h, rd⟩ :=
 loopQ.again m' hm ⟨_, _, h, _, _, _, _, _, _, _, _, _, _, rfl, hi⟩
abbrev fn_zgdQ : FuncId := 117
def zgdQ_c : ACode :=
 (.seq (.region [
 o1 4 (.mov (.const (.int .u64 0)))]) (.seq (.seq (.region [
 o1 5 (.load none (tm 1)),
 o1 6 (.bin .gtr (so (.binOp .gtr 3 (tm 5) k0 3) 4) (tm 5) k0)]) (.cond (tm 6)
 (.region [
 o1 7 (.mov (tm 0)),
 o1 8 (.indexSl 1 (tm 7) k0),
 o1 9 (.load none (tm 8)),
 o3 (.store 1 (tm 2) (tm 9))])
 .skip)) (.seq (.region [
 o1 10 (.mov (tm 0)),
 o1 11 (.callV (.func 116) [(tm 10)]),
 o1 4 (.mov (tm 11))]) .ret)))
def zgdQ : AFunc := ⟨12, [(4, none)], zgdQ_c, none⟩
theorem zgdQ_t0 : tableOf Tryz.prog 117 = some zgdQ := by kernel_rfl
theorem zgdQ_t : T0 117 = some zgdQ := withKept_t rfl (withTrue_t rfl zgdQ_t0)
theorem zgdQ_runs {v0 v1 v2 : Value} {h : Heap} {R : RP} {X : XP} (k : RunC Tryz.prog T0 zgdQ_c ⟨[v0, v1, v2, U, U, U, U, U, U, U, U, U], [], h, none⟩ (bodyQ Tryz.prog T0 [(4, none)] R X)) :
 Runs Tryz.prog T0 (.fn 117) [v0, v1, v2] h R X := Runs.fn zgdQ_t rfl k
abbrev fn_zbdQ : FuncId := 118
def zbdQ_c : ACode :=
 (.seq (.region [
 o1 4 (.mov (.const (.string ⟨⟨[]⟩⟩)))]) (.seq (.region [
 o1 5 (.mov (tm 0)),
 o1 6 (.mov (tm 1)),
 o1 7 (.callV (.func 39) [(tm 5), (tm 6)]),
 o1 8 (.bytesToStr (tm 7)),
 o1 4 (.mov (tm 8))]) .ret))
def zbdQ : AFunc := ⟨9, [(4, none)], zbdQ_c, none⟩
theorem zbdQ_t0 : tableOf Tryz.prog 118 = some zbdQ := by kernel_rfl
theorem zbdQ_t : T0 118 = some zbdQ := withKept_t rfl (withTrue_t rfl zbdQ_t0)
theorem zbdQ_runs {v0 v1 : Value} {h : Heap} {R : RP} {X : XP} (k : RunC Tryz.prog T0 zbdQ_c ⟨[v0, v1, U, U, U, U, U, U, U], [], h, none⟩ (bodyQ Tryz.prog T0 [(4, none)] R X)) :
 Runs Tryz.prog T0 (.fn 118) [v0, v1] h R X := Runs.fn zbdQ_t rfl k
abbrev fn_ztcQ : FuncId := 119
def ztcQ_c : ACode :=
 (.seq (.region [
 o1 1 (.box 69 (tm 0)),
 o1 2 (.alloc 28 z32)]) (.seq (.region [
 o1 3 (.load none (tm 1)),
 o1 4 (.mkFunc (.func 140) [] [(tm 1)]),
 o1 5 (.callV (.func 139) [(tm 3), (tm 4)]),
 o3 (.store 32 (tm 2) (tm 5))]) .ret))
def ztcQ : AFunc := ⟨6, [(2, some (some 32))], ztcQ_c, none⟩
theorem ztcQ_t0 : tableOf Tryz.prog 119 = some ztcQ := by kernel_rfl
theorem ztcQ_t : T0 119 = some ztcQ := withKept_t rfl (withTrue_t rfl ztcQ_t0)
theorem ztcQ_runs {v0 : Value} {h : Heap} {R : RP} {X : XP} (k : RunC Tryz.prog T0 ztcQ_c ⟨[v0, U, U, U, U, U], [], h, none⟩ (bodyQ Tryz.prog T0 [(2, some (some 32))] R X)) :
 Runs Tryz.prog T0 (.fn 119) [v0] h R X := Runs.fn ztcQ_t rfl k
abbrev fn_zcdQ : FuncId := 120
def zcdQ_c : ACode :=
 (.seq (.region [
 o1 1 (.box 69 (tm 0)),
 o1 2 (.mov (.const (.int .u64 0)))]) (.seq (.region [
 o1 3 (.load none (tm 1)),
 o1 4 (.mkFunc (.func 144) [] [(tm 1)]),
 o1 5 (.callV (.func 143) [(tm 3), (tm 4)]),
 o1 2 (.mov (tm 5))]) .ret))
def zcdQ : AFunc := ⟨6, [(2, none)], zcdQ_c, none⟩
theorem zcdQ_t0 : tableOf Tryz.prog 120 = some zcdQ := by kernel_rfl
theorem zcdQ_t : T0 120 = some zcdQ := withKept_t rfl (withTrue_t rfl zcdQ_t0)
theorem zcdQ_runs {v0 : Value} {h : Heap} {R : RP} {X : XP} (k : RunC Tryz.prog T0 zcdQ_c ⟨[v0, U, U, U, U, U], [], h, none⟩ (bodyQ Tryz.prog T0 [(2, none)] R X)) :
 Runs Tryz.prog T0 (.fn 120) [v0] h R X := Runs.fn zcdQ_t rfl k
abbrev fn_zwcQ : FuncId := 121
def zwcQ_c : ACode :=
 (.seq (.region [
 o1 1 (.box 69 (tm 0)),
 o1 2 (.alloc 130 [(.int .u8 0), (.int .u8 0), (.int .u8 0), (.int .u8 0)])]) (.seq (.region [
 o1 3 (.load none (tm 1)),
 o1 4 (.mkFunc (.func 146) [] [(tm 1)]),
 o1 5 (.callV (.func 145) [(tm 3), (tm 4)]),
 o3 (.store 4 (tm 2) (tm 5))]) .ret))
def zwcQ : AFunc := ⟨6, [(2, some (some 4))], zwcQ_c, none⟩
theorem zwcQ_t0 : tableOf Tryz.prog 121 = some zwcQ := by kernel_rfl
theorem zwcQ_t : T0 121 = some zwcQ := withKept_t rfl (withTrue_t rfl zwcQ_t0)
theorem zwcQ_runs {v0 : Value} {h : Heap} {R : RP} {X : XP} (k : RunC Tryz.prog T0 zwcQ_c ⟨[v0, U, U, U, U, U], [], h, none⟩ (bodyQ Tryz.prog T0 [(2, some (some 4))] R X)) :
 Runs Tryz.prog T0 (.fn 121) [v0] h R X := Runs.fn zwcQ_t rfl k
abbrev fn_zzQ : FuncId := 134
def zzQ_c : ACode :=
 (.seq (.region [
 o1 0 (.mov (.const (.slice none 0 0)))]) (.seq (.region [
 o1 1 (.build [.nilFunc, (.int .i64 0)] [(0, 1, (.func 154)), (1, 1, (.const (.int .i64 5)))]),
 o1 2 (.build [.nilFunc, (.int .i64 0)] [(0, 1, (.func 156)), (1, 1, (.const (.int .i64 3)))]),
 o1 3 (.build [.nilFunc, (.int .i64 0)] [(0, 1, (.func 157)), (1, 1, (.const (.int .i64 3)))]),
 o1 4 (.buildSlice 175 [.nilFunc, (.int .i64 0), .nilFunc, (.int .i64 0), .nilFunc, (.int .i64 0)] 3 [(0, 2, (tm 1)), (2, 2, (tm 2)), (4, 2, (tm 3))]),
 o1 0 (.mov (tm 4))]) .ret))
def zzQ : AFunc := ⟨5, [(0, none)], zzQ_c, none⟩
theorem zzQ_t0 : tableOf Tryz.prog 134 = some zzQ := by kernel_rfl
theorem zzQ_t : T0 134 = some zzQ := withKept_t rfl (withTrue_t rfl zzQ_t0)
theorem zzQ_runs {v : Value} {h : Heap} {R : RP} {X : XP} (k : RunC Tryz.prog T0 zzQ_c ⟨[undef, U, U, U, U], [], h, none⟩ (bodyQ Tryz.prog T0 [(0, none)] R X)) :
 Runs Tryz.prog T0 (.fn 134) [] h R X := Runs.fn zzQ_t rfl k
abbrev fn_zncQ : FuncId := 135
def zncQ_c : ACode :=
 (.seq (.region [
 o1 3 (.box 132 (tm 1)),
 o1 4 (.mov k0)]) (.seq (.regionD [
 o2 6 (.mov (tm 0)),
 o2 7 (.nilCheck (tm 6)),
 o2 8 (.fieldAddr 4 (tm 7)),
 o2 9 (.load none (tm 8)),
 o2 10 (.mov (tm 9)),
 o4 11 (.mov (tm 0)) 10,
 o4 12 (.nilCheck (tm 11)) 10,
 o4 13 (.fieldAddr 0 (tm 12)) 10,
 o4 14 (.sliceArr 4 1 (tm 13) none none) 10,
 o4 15 (.fieldAddr 0 (tm 3)) 10,
 o4 16 (.sliceArr 4 1 (tm 15) none none) 10,
 ⟨some 17, .callV (.func 158) [(tm 14), (tm 16)], some (10, true), [], true⟩,
 ⟨some 18, .bin .geq (so (.binOp .geq 3 (tm 17) k0 3) 4) (tm 17) k0, some (10, true), [], true⟩,
 o2 19 (.pick (tm 10) (tm 18) (.const (.bool false))),
 o2 5 (.mov (tm 19))]) (.seq (.region [
 o1 20 (.mov (tm 0)),
 o1 21 (.mov (tm 0)),
 o1 22 (.fieldAddr 0 (tm 3)),
 o1 23 (.load (some 4) (tm 22)),
 o1 24 (.nilCheck (tm 20)),
 o1 25 (.fieldAddr 0 (tm 24)),
 o3 (.store 4 (tm 25) (tm 23)),
 o1 26 (.nilCheck (tm 21)),
 o1 27 (.fieldAddr 4 (tm 26)),
 o3 (.store 1 (tm 27) (.const (.bool true)))]) (.seq (.block 0 (.seq (.region [
 o1 29 (.mov (tm 5)),
 o1 28 (.mov (tm 29))]) (.cond (tm 28)
 (.seq (.region [
 o1 4 (.mov (.const (.int .i64 9)))]) .ret)
 (.seq (.regionD [
 o1 31 (.fieldAddr 4 (tm 3)),
 o1 32 (.load none (tm 31)),
 o1 33 (.mov (tm 0)),
 o1 34 (.nilCheck (tm 33)),
 o1 35 (.fieldAddr 5 (tm 34)),
 o1 36 (.load none (tm 35)),
 o2 37 (.bin .lss (so (.binOp .lss 3 (tm 32) (tm 36) 3) 4) (tm 32) (tm 36)),
 o2 38 (.mov (tm 37)),
 o5 39 (.fieldAddr 4 (tm 3)) 38,
 o5 40 (.load none (tm 39)) 38,
 o5 41 (.mov (tm 0)) 38,
 o5 42 (.nilCheck (tm 41)) 38,
 o5 43 (.fieldAddr 6 (tm 42)) 38,
 o5 44 (.load none (tm 43)) 38,
 ⟨some 45, .bin .gtr (so (.binOp .gtr 3 (tm 40) (tm 44) 3) 4) (tm 40) (tm 44), some (38, false), [], true⟩,
 o2 46 (.pick (tm 38) (.const (.bool true)) (tm 45)),
 o2 30 (.mov (tm 46))]) (.cond (tm 30)
 (.seq (.region [
 o1 4 (.mov (.const (.int .i64 3)))]) .ret)
 .skip))))) (.seq (.region [
 o1 4 (.mov k0)]) .ret)))))
def zncQ : AFunc := ⟨47, [(4, none)], zncQ_c, none⟩
theorem zncQ_t0 : tableOf Tryz.prog 135 = some zncQ := by kernel_rfl
theorem zncQ_t : T0 135 = some zncQ := withKept_t rfl (withTrue_t rfl zncQ_t0)
theorem zncQ_runs {v0 v1 : Value} {h : Heap} {R : RP} {X : XP} (k : RunC Tryz.prog T0 zncQ_c ⟨[v0, v1, U, U, U, U, U, U, U, U, U, U, U, U, U, U, U, U, U, U, U, U, U, U, U, U, U, U, U, U, U, U, U, U, U, U, U, U, U, U, U, U, U, U, U, U, U], [], h, none⟩ (bodyQ Tryz.prog T0 [(4, none)] R X)) :
 Runs Tryz.prog T0 (.fn 135) [v0, v1] h R X := Runs.fn zncQ_t rfl k
abbrev fn_zqQ : FuncId := 136
def zqQ_c : ACode :=
 (.seq (.region [
 o1 0 (.mov (.const .nilFunc))]) (.seq (.region [
 o1 1 (.alloc 3 [(.int .i64 0)]),
 o3 (.store 1 (tm 1) (.const (.int .i64 (-1))))]) (.seq (.region [
 o1 2 (.mkFunc (.func 159) [] [(tm 1)]),
 o1 0 (.mov (tm 2))]) .ret)))
def zqQ : AFunc := ⟨3, [(0, none)], zqQ_c, none⟩
theorem zqQ_t0 : tableOf Tryz.prog 136 = some zqQ := by kernel_rfl
theorem zqQ_t : T0 136 = some zqQ := withKept_t rfl (withTrue_t rfl zqQ_t0)
theorem zqQ_runs {v : Value} {h : Heap} {R : RP} {X : XP} (k : RunC Tryz.prog T0 zqQ_c ⟨[undef, U, U], [], h, none⟩ (bodyQ Tryz.prog T0 [(0, none)] R X)) :
 Runs Tryz.prog T0 (.fn 136) [] h R X := Runs.fn zqQ_t rfl k
abbrev fn_zbeQ : FuncId := 137
def zbeQ_l0 : ACode :=
 (.seq (.region [
 o1 6 (.bin .lss (so (.binOp .lss 3 (tm 5) (.const (.int .i64 8)) 3) 4) (tm 5) (.const (.int .i64 8)))]) (.seq (.cond (tm 6)
 .skip
 (.exit 0)) (.seq (.block 1 (.seq (.region [
 o1 7 (.mov (tm 5)),
 o1 4 (.mov (tm 7))]) (.region [
 o1 8 (.mov (tm 4)),
 o1 9 (.bin .sub (so (.binOp .sub 3 (.const (.int .i64 7)) (tm 8) 3) 3) (.const (.int .i64 7)) (tm 8)),
 o1 10 (.mov (tm 0)),
 o1 11 (.mov (tm 4)),
 o1 12 (.bin .mul (so (.binOp .mul 3 (.const (.int .i64 8)) (tm 11) 3) 3) (.const (.int .i64 8)) (tm 11)),
 o1 13 (.bin .shr (so (.binOp .shr 124 (tm 10) (tm 12) 3) 124) (tm 10) (tm 12)),
 o1 14 (.conv .u8 (so (.convert 124 5 (tm 13)) 5) (tm 13)),
 o1 15 (.indexArr 8 1 (tm 3) (tm 9)),
 o3 (.store 1 (tm 15) (tm 14))]))) (.region [
 o1 16 (.bin .add (so (.binOp .add 3 (tm 5) (.const (.int .i64 1)) 3) 3) (tm 5) (.const (.int .i64 1))),
 o1 5 (.mov (tm 16))]))))
def zbeQ_c : ACode :=
 (.seq (.region [
 o1 2 (.alloc 181 [(.int .u8 0), (.int .u8 0), (.int .u8 0), (.int .u8 0), (.int .u8 0), (.int .u8 0), (.int .u8 0), (.int .u8 0)])]) (.seq (.region [
 o1 3 (.alloc 181 [(.int .u8 0), (.int .u8 0), (.int .u8 0), (.int .u8 0), (.int .u8 0), (.int .u8 0), (.int .u8 0), (.int .u8 0)])]) (.seq (.seq (.region [
 o1 5 (.mov k0)]) (.block 0 (.loop zbeQ_l0))) (.seq (.region [
 o1 17 (.load (some 8) (tm 3)),
 o3 (.store 8 (tm 2) (tm 17))]) .ret))))
def zbeQ : AFunc := ⟨18, [(2, some (some 8))], zbeQ_c, none⟩
theorem zbeQ_t0 : tableOf Tryz.prog 137 = some zbeQ := by kernel_rfl
theorem zbeQ_t : T0 137 = some zbeQ := withKept_t rfl (withTrue_t rfl zbeQ_t0)
theorem zbeQ_runs {v0 : Value} {h : Heap} {R : RP} {X : XP} (k : RunC Tryz.prog T0 zbeQ_c ⟨[v0, U, U, U, U, U, U, U, U, U, U, U, U, U, U, U, U, U], [], h, none⟩ (bodyQ Tryz.prog T0 [(2, some (some 8))] R X)) :
 Runs Tryz.prog T0 (.fn 137) [v0] h R X := Runs.fn zbeQ_t rfl k
def zbeQ_l0_J (f0 f1 f2 f3 f17 : Value) (ds : List Deferred) (rd : Option Nat) (I : Nat → Value → Heap → Prop) (m : Nat) (s : St) : Prop := ∃ (v5 : Value), ∃ h : Heap, ∃ (x4 x6 x7 x8 x9 x10 x11 x12 x13 x14 x15 x16 : Value), s = ⟨[f0, f1, f2, f3, x4, v5, x6, x7, x8, x9, x10, x11, x12, x13, x14, x15, x16, f17], ds, h, rd⟩ ∧ I m v5 h
theorem zbeQ_l0_rule {f0 f1 f2 f3 f17 : Value} {ds : List Deferred} {rd : Option Nat} {Q : QP} (I : Nat → Value → Heap → Prop) (hb : ∀ (m : Nat) (v5 : Value) (h : Heap) (x4 x6 x7 x8 x9 x10 x11 x12 x13 x14 x15 x16 : Value) , I m v5 h → RunC Tryz.prog T0 zbeQ_l0 ⟨[f0, f1, f2, f3, x4, v5, x6, x7, x8, x9, x10, x11, x12, x13, x14, x15, x16, f17], ds, h, rd⟩ (loopQ (zbeQ_l0_J f0 f1 f2 f3 f17 ds rd I) m Q))
 (m : Nat) {v5 : Value} {h : Heap} {x4 x6 x7 x8 x9 x10 x11 x12 x13 x14 x15 x16 : Value} (hi : I m v5 h) : RunC Tryz.prog T0 (.loop zbeQ_l0) ⟨[f0, f1, f2, f3, x4, v5, x6, x7, x8, x9, x10, x11, x12, x13, x14, x15, x16, f17], ds, h, rd⟩ Q :=
 RunC.loopJ (zbeQ_l0_J f0 f1 f2 f3 f17 ds rd I) (fun m s hj => by obtain ⟨v5, h, x4, x6, x7, x8, x9, x10, x11, x12, x13, x14, x15, x16, rfl, hi⟩ := hj; exact hb m v5 h x4 x6 x7 x8 x9 x10 x11 x12 x13 x14 x15 x16 hi) m _ ⟨_, h, _, _, _, _, _, _, _, _, _, _, _, _, rfl, hi⟩
theorem zbeQ_l0_again {f0 f1 f2 f3 f17 : Value} {ds : List Deferred} {rd : Option Nat} {Q : QP} {I : Nat → Value → Heap → Prop} {m : Nat} (m' : Nat) {v5 : Value} {h : Heap} {x4 x6 x7 x8 x9 x10 x11 x12 x13 x14 x15 x16 : Value} (hm : m' < m) (hi : I m' v5 h) : loopQ (zbeQ_l0_J f0 f1 f2 f3 f17 ds rd I) m Q .normal ⟨[f0, f1, f2, f3, x4, v5, x6, x7, x8, x9, x10, x11, x12, x13, x14, x15, x16, f17], ds, h, rd⟩ :=
 loopQ.again m' hm ⟨_, h, _, _, _, _, _, _, _, _, _, _, _, _, rfl, hi⟩
abbrev fn_zicQ : FuncId := 138
def zicQ_l0 : ACode :=
 (.seq (.region [
 o1 12 (.bin .lss (so (.binOp .lss 3 (tm 11) (tm 10) 3) 0) (tm 11) (tm 10))]) (.seq (.cond (tm 12)
 .skip
 (.exit 0)) (.seq (.block 1 (.seq (.region [
 o1 13 (.indexSl 1 (tm 9) (tm 11)),
 o1 14 (.load none (tm 13)),
 o1 5 (.mov (tm 14))]) (.seq (.region [
 o1 15 (.mov (tm 3)),
 o1 16 (.mov (tm 5)),
 o1 17 (.lenSl (tm 16)),
 o1 18 (.bin .add (so (.binOp .add 3 (tm 15) (tm 17) 3) 3) (tm 15) (tm 17)),
 o1 3 (.mov (tm 18))]) (.seq (.region [
 o1 19 (.mov (tm 3)),
 o1 20 (.bin .lss (so (.binOp .lss 3 (tm 19) k0 3) 4) (tm 19) k0)]) (.cond (tm 20)
 (.region [
 o1 21 (.mkIface 9 (.const (.string ⟨⟨[108, 101, 110, 32, 111, 117, 116, 32, 111, 102, 32, 114, 97, 110, 103, 101]⟩⟩))),
 o3 (.panic (tm 21))])
 .skip))))) (.region [
 o1 22 (.bin .add (so (.binOp .add 3 (tm 11) (.const (.int .i64 1)) 3) 3) (tm 11) (.const (.int .i64 1))),
 o1 11 (.mov (tm 22))]))))
def zicQ_l1 : ACode :=
 (.seq (.region [
 o1 28 (.bin .lss (so (.binOp .lss 3 (tm 27) (tm 26) 3) 0) (tm 27) (tm 26))]) (.seq (.cond (tm 28)
 .skip
 (.exit 2)) (.seq (.block 3 (.seq (.region [
 o1 29 (.indexSl 1 (tm 25) (tm 27)),
 o1 30 (.load none (tm 29)),
 o1 8 (.mov (tm 30))]) (.region [
 o1 31 (.mov (tm 6)),
 o1 32 (.mov (tm 8)),
 o1 33 (.append 5 1 1 [(.int .u8 0)] false (tm 31) (tm 32)),
 o1 6 (.mov (tm 33))]))) (.region [
 o1 34 (.bin .add (so (.binOp .add 3 (tm 27) (.const (.int .i64 1)) 3) 3) (tm 27) (.const (.int .i64 1))),
 o1 27 (.mov (tm 34))]))))
def zicQ_c : ACode :=
 (.seq (.region [
 o1 2 (.mov (.const (.slice none 0 0)))]) (.seq (.region [
 o1 3 (.mov k0)]) (.seq (.seq (.region [
 o1 9 (.mov (tm 0)),
 o1 10 (.lenSl (tm 9)),
 o1 11 (.mov k0)]) (.block 0 (.loop zicQ_l0))) (.seq (.region [
 o1 23 (.mov (tm 3)),
 o1 24 (.callV (.func 160) [(.const (.slice none 0 0)), (tm 23)]),
 o1 6 (.mov (tm 24))]) (.seq (.seq (.region [
 o1 25 (.mov (tm 0)),
 o1 26 (.lenSl (tm 25)),
 o1 27 (.mov k0)]) (.block 2 (.loop zicQ_l1))) (.seq (.region [
 o1 35 (.mov (tm 6)),
 o1 2 (.mov (tm 35))]) .ret))))))
def zicQ : AFunc := ⟨36, [(2, none)], zicQ_c, none⟩
theorem zicQ_t0 : tableOf Tryz.prog 138 = some zicQ := by kernel_rfl
theorem zicQ_t : T0 138 = some zicQ := withKept_t rfl (withTrue_t rfl zicQ_t0)
theorem zicQ_runs {v0 : Value} {h : Heap} {R : RP} {X : XP} (k : RunC Tryz.prog T0 zicQ_c ⟨[v0, U, U, U, U, U, U, U, U, U, U, U, U, U, U, U, U, U, U, U, U, U, U, U, U, U, U, U, U, U, U, U, U, U, U, U], [], h, none⟩ (bodyQ Tryz.prog T0 [(2, none)] R X)) :
 Runs Tryz.prog T0 (.fn 138) [v0] h R X := Runs.fn zicQ_t rfl k
def zicQ_l0_J (f0 f1 f2 f4 f6 f7 f8 f9 f10 f23 f24 f25 f26 f27 f28 f29 f30 f31 f32 f33 f34 f35 : Value) (ds : List Deferred) (rd : Option Nat) (I : Nat → Value → Value → Heap → Prop) (m : Nat) (s : St) : Prop := ∃ (v3 v11 : Value), ∃ h : Heap, ∃ (x5 x12 x13 x14 x15 x16 x17 x18 x19 x20 x21 x22 : Value), s = ⟨[f0, f1, f2, v3, f4, x5, f6, f7, f8, f9, f10, v11, x12, x13, x14, x15, x16, x17, x18, x19, x20, x21, x22, f23, f24, f25, f26, f27, f28, f29, f30, f31, f32, f33, f34, f35], ds, h, rd⟩ ∧ I m v3 v11 h
theorem zicQ_l0_rule {f0 f1 f2 f4 f6 f7 f8 f9 f10 f23 f24 f25 f26 f27 f28 f29 f30 f31 f32 f33 f34 f35 : Value} {ds : List Deferred} {rd : Option Nat} {Q : QP} (I : Nat → Value → Value → Heap → Prop) (hb : ∀ (m : Nat) (v3 v11 : Value) (h : Heap) (x5 x12 x13 x14 x15 x16 x17 x18 x19 x20 x21 x22 : Value) , I m v3 v11 h → RunC Tryz.prog T0 zicQ_l0 ⟨[f0, f1, f2, v3, f4, x5, f6, f7, f8, f9, f10, v11, x12, x13, x14, x15, x16, x17, x18, x19, x20, x21, x22, f23, f24, f25, f26, f27, f28, f29, f30, f31, f32, f33, f34, f35], ds, h, rd⟩ (loopQ (zicQ_l0_J f0 f1 f2 f4 f6 f7 f8 f9 f10 f23 f24 f25 f26 f27 f28 f29 f30 f31 f32 f33 f34 f35 ds rd I) m Q))
 (m : Nat) {v3 v11 : Value} {h : Heap} {x5 x12 x13 x14 x15 x16 x17 x18 x19 x20 x21 x22 : Value} (hi : I m v3 v11 h) : RunC Tryz.prog T0 (.loop zicQ_l0) ⟨[f0, f1, f2, v3, f4, x5, f6, f7, f8, f9, f10, v11, x12, x13, x14, x15, x16, x17, x18, x19, x20, x21, x22, f23, f24, f25, f26, f27, f28, f29, f30, f31, f32, f33, f34, f35], ds, h, rd⟩ Q :=
 RunC.loopJ (zicQ_l0_J f0 f1 f2 f4 f6 f7 f8 f9 f10 f23 f24 f25 f26 f27 f28 f29 f30 f31 f32 f33 f34 f35 ds rd I) (fun m s hj => by obtain ⟨v3, v11, h, x5, x12, x13, x14, x15, x16, x17, x18, x19, x20, x21, x22, rfl, hi⟩ := hj; exact hb m v3 v11 h x5 x12 x13 x14 x15 x16 x17 x18 x19 x20 x21 x22 hi) m _ ⟨_, _, h, _, _, _, _, _, _, _, _, _, _, _, _, rfl, hi⟩
theorem zicQ_l0_again {f0 f1 f2 f4 f6 f7 f8 f9 f10 f23 f24 f25 f26 f27 f28 f29 f30 f31 f32 f33 f34 f35 : Value} {ds : List Deferred} {rd : Option Nat} {Q : QP} {I : Nat → Value → Value → Heap → Prop} {m : Nat} (m' : Nat) {v3 v11 : Value} {h : Heap} {x5 x12 x13 x14 x15 x16 x17 x18 x19 x20 x21 x22 : Value} (hm : m' < m) (hi : I m' v3 v11 h) : loopQ (zicQ_l0_J f0 f1 f2 f4 f6 f7 f8 f9 f10 f23 f24 f25 f26 f27 f28 f29 f30 f31 f32 f33 f34 f35 ds rd I) m Q .normal ⟨[f0, f1, f2, v3, f4, x5, f6, f7, f8, f9, f10, v11, x12, x13, x14, x15, x16, x17, x18, x19, x20, x21, x22, f23, f24, f25, f26, f27, f28, f29, f30, f31, f32, f33, f34, f35], ds, h, rd⟩ :=
 loopQ.again m' hm ⟨_, _, h, _, _, _, _, _, _, _, _, _, _, _, _, rfl, hi⟩
def zicQ_l1_J (f0 f1 f2 f3 f4 f5 f7 f9 f10 f11 f12 f13 f14 f15 f16 f17 f18 f19 f20 f21 f22 f23 f24 f25 f26 f35 : Value) (ds : List Deferred) (rd : Option Nat) (I : Nat → Value → Value → Heap → Prop) (m : Nat) (s : St) : Prop := ∃ (v6 v27 : Value), ∃ h : Heap, ∃ (x8 x28 x29 x30 x31 x32 x33 x34 : Value), s = ⟨[f0, f1, f2, f3, f4, f5, v6, f7, x8, f9, f10, f11, f12, f13, f14, f15, f16, f17, f18, f19, f20, f21, f22, f23, f24, f25, f26, v27, x28, x29, x30, x31, x32, x33, x34, f35], ds, h, rd⟩ ∧ I m v6 v27 h
theorem zicQ_l1_rule {f0 f1 f2 f3 f4 f5 f7 f9 f10 f11 f12 f13 f14 f15 f16 f17 f18 f19 f20 f21 f22 f23 f24 f25 f26 f35 : Value} {ds : List Deferred} {rd : Option Nat} {Q : QP} (I : Nat → Value → Value → Heap → Prop) (hb : ∀ (m : Nat) (v6 v27 : Value) (h : Heap) (x8 x28 x29 x30 x31 x32 x33 x34 : Value) , I m v6 v27 h → RunC Tryz.prog T0 zicQ_l1 ⟨[f0, f1, f2, f3, f4, f5, v6, f7, x8, f9, f10, f11, f12, f13, f14, f15, f16, f17, f18, f19, f20, f21, f22, f23, f24, f25, f26, v27, x28, x29, x30, x31, x32, x33, x34, f35], ds, h, rd⟩ (loopQ (zicQ_l1_J f0 f1 f2 f3 f4 f5 f7 f9 f10 f11 f12 f13 f14 f15 f16 f17 f18 f19 f20 f21 f22 f23 f24 f25 f26 f35 ds rd I) m Q))
 (m : Nat) {v6 v27 : Value} {h : Heap} {x8 x28 x29 x30 x31 x32 x33 x34 : Value} (hi : I m v6 v27 h) : RunC Tryz.prog T0 (.loop zicQ_l1) ⟨[f0, f1, f2, f3, f4, f5, v6, f7, x8, f9, f10, f11, f12, f13, f14, f15, f16, f17, f18, f19, f20, f21, f22, f23, f24, f25, f26, v27, x28, x29, x30, x31, x32, x33, x34, f35], ds, h, rd⟩ Q :=
 RunC.loopJ (zicQ_l1_J f0 f1 f2 f3 f4 f5 f7 f9 f10 f11 f12 f13 f14 f15 f16 f17 f18 f19 f20 f21 f22 f23 f24 f25 f26 f35 ds rd I) (fun m s hj => by obtain ⟨v6, v27, h, x8, x28, x29, x30, x31, x32, x33, x34, rfl, hi⟩ := hj; exact hb m v6 v27 h x8 x28 x29 x30 x31 x32 x33 x34 hi) m _ ⟨_, _, h, _, _, _, _, _, _, _, _, rfl, hi⟩
theorem zicQ_l1_again {f0 f1 f2 f3 f4 f5 f7 f9 f10 f11 f12 f13 f14 f15 f16 f17 f18 f19 f20 f21 f22 f23 f24 f25 f26 f35 : Value} {ds : List Deferred} {rd : Option Nat} {Q : QP} {I : Nat → Value → Value → Heap → Prop} {m : Nat} (m' : Nat) {v6 v27 : Value} {h : Heap} {x8 x28 x29 x30 x31 x32 x33 x34 : Value} (hm : m' < m) (hi : I m' v6 v27 h) : loopQ (zicQ_l1_J f0 f1 f2 f3 f4 f5 f7 f9 f10 f11 f12 f13 f14 f15 f16 f17 f18 f19 f20 f21 f22 f23 f24 f25 f26 f35 ds rd I) m Q .normal ⟨[f0, f1, f2, f3, f4, f5, v6, f7, x8, f9, f10, f11, f12, f13, f14, f15, f16, f17, f18, f19, f20, f21, f22, f23, f24, f25, f26, v27, x28, x29, x30, x31, x32, x33, x34, f35], ds, h, rd⟩ :=
 loopQ.again m' hm ⟨_, _, h, _, _, _, _, _, _, _, _, rfl, hi⟩
abbrev fn_ztdQ : FuncId := 139
def ztdQ_c : ACode :=
 (.seq (.region [
 o1 4 (.alloc 28 z32)]) (.seq (.seq (.region [
 o1 5 (.mov (tm 0)),
 o1 6 (.eq .ptr false (so (.binOp .eql 69 (tm 5) (.const (.pointer none)) 69) 4) (tm 5) (.const (.pointer none))),
 o1 7 (.mov (tm 6)),
 o5 8 (.mov (tm 0)) 7,
 o5 9 (.nilCheck (tm 8)) 7,
 o5 10 (.fieldAddr 4 (tm 9)) 7,
 o5 11 (.load none (tm 10)) 7,
 o5 12 (.raw (so (.unOp .not 4 (tm 11)) 4)) 7,
 o1 13 (.pick (tm 7) (.const (.bool true)) (tm 12)),
 o1 14 (.mov (tm 13)),
 o5 15 (.mov (tm 0)) 14,
 o5 16 (.nilCheck (tm 15)) 14,
 o5 17 (.fieldAddr 2 (tm 16)) 14,
 o5 18 (.fieldAddr 0 (tm 17)) 14,
 o5 19 (.load none (tm 18)) 14,
 o5 20 (.bin .neq (so (.binOp .neq 41 (tm 19) k0 41) 4) (tm 19) k0) 14,
 o1 21 (.pick (tm 14) (.const (.bool true)) (tm 20))]) (.cond (tm 21)
 (.seq (.region [
 o1 22 (.load (some 32) (tm 4)),
 o3 (.store 32 (tm 4) (tm 22))]) .ret)
 .skip)) (.seq (.region [
 o1 23 (.mov (tm 0)),
 o3 (.defer (.func 114) [(tm 23)])]) (.seq (.region [
 o1 24 (.mov (tm 1)),
 o1 25 (.mov (tm 0)),
 o1 26 (.nilCheck (tm 25)),
 o1 27 (.fieldAddr 1 (tm 26)),
 o1 28 (.load none (tm 27)),
 o1 29 (.callV (tm 24) [(tm 28)]),
 o3 (.store 32 (tm 4) (tm 29))]) .ret))))
def ztdQ : AFunc := ⟨30, [(4, some (some 32))], ztdQ_c, none⟩
theorem ztdQ_t0 : tableOf Tryz.prog 139 = some ztdQ := by kernel_rfl
theorem ztdQ_t : T0 139 = some ztdQ := withKept_t rfl (withTrue_t rfl ztdQ_t0)
theorem ztdQ_runs {v0 v1 : Value} {h : Heap} {R : RP} {X : XP} (k : RunC Tryz.prog T0 ztdQ_c ⟨[v0, v1, U, U, U, U, U, U, U, U, U, U, U, U, U, U, U, U, U, U, U, U, U, U, U, U, U, U, U, U], [], h, none⟩ (bodyQ Tryz.prog T0 [(4, some (some 32))] R X)) :
 Runs Tryz.prog T0 (.fn 139) [v0, v1] h R X := Runs.fn ztdQ_t rfl k
abbrev fn_zucQ : FuncId := 140
def zucQ_c : ACode :=
 (.seq (.region [
 o1 3 (.alloc 28 z32)]) (.seq (.region [
 o1 4 (.load none (tm 1)),
 o1 5 (.mov (tm 0)),
 o1 6 (.callV (.func 141) [(tm 4), (.const (.int .i64 32)), (tm 5), (.func 142)]),
 o3 (.store 32 (tm 3) (tm 6))]) .ret))
def zucQ : AFunc := ⟨7, [(3, some (some 32))], zucQ_c, none⟩
theorem zucQ_t0 : tableOf Tryz.prog 140 = some zucQ := by kernel_rfl
theorem zucQ_t : T0 140 = some zucQ := withKept_t rfl (withTrue_t rfl zucQ_t0)
theorem zucQ_runs {v0 v1 : Value} {h : Heap} {R : RP} {X : XP} (k : RunC Tryz.prog T0 zucQ_c ⟨[v0, v1, U, U, U, U, U], [], h, none⟩ (bodyQ Tryz.prog T0 [(3, some (some 32))] R X)) :
 Runs Tryz.prog T0 (.fn 140) [v0, v1] h R X := Runs.fn zucQ_t rfl k
abbrev fn_zydQ : FuncId := 141
def zydQ_c : ACode :=
 (.seq (.region [
 o1 8 (.alloc 28 z32)]) (.seq (.regionD [
 o1 9 (.mov (tm 1)),
 o1 10 (.mov (tm 0)),
 o1 11 (.nilCheck (tm 10)),
 o1 12 (.fieldAddr 0 (tm 11)),
 o1 13 (.load none (tm 12)),
 o1 14 (.lenSl (tm 13)),
 o1 15 (.mov (tm 0)),
 o1 16 (.nilCheck (tm 15)),
 o1 17 (.fieldAddr 1 (tm 16)),
 o1 18 (.load none (tm 17)),
 o1 19 (.bin .sub (so (.binOp .sub 3 (tm 14) (tm 18) 3) 3) (tm 14) (tm 18)),
 o1 20 (.bin .leq (so (.binOp .leq 3 (tm 9) (tm 19) 3) 4) (tm 9) (tm 19)),
 o1 21 (.mov (tm 2)),
 o2 22 (.callV (.func 78) [(tm 20), (.const (.int .i64 6)), (tm 21)])]) (.seq (.region [
 o1 23 (.mov (tm 0)),
 o1 24 (.nilCheck (tm 23)),
 o1 25 (.fieldAddr 1 (tm 24)),
 o1 26 (.load none (tm 25)),
 o1 27 (.mov (tm 1)),
 o1 28 (.bin .add (so (.binOp .add 3 (tm 26) (tm 27) 3) 3) (tm 26) (tm 27)),
 o1 29 (.nilCheck (tm 23)),
 o1 30 (.fieldAddr 1 (tm 29)),
 o3 (.store 1 (tm 30) (tm 28))]) (.seq (.regionD [
 o1 31 (.mov (tm 3)),
 o1 32 (.mov (tm 0)),
 o1 33 (.nilCheck (tm 32)),
 o1 34 (.fieldAddr 0 (tm 33)),
 o1 35 (.load none (tm 34)),
 o1 36 (.mov (tm 0)),
 o1 37 (.nilCheck (tm 36)),
 o1 38 (.fieldAddr 1 (tm 37)),
 o1 39 (.load none (tm 38)),
 o1 40 (.mov (tm 1)),
 o1 41 (.bin .sub (so (.binOp .sub 3 (tm 39) (tm 40) 3) 3) (tm 39) (tm 40)),
 o1 42 (.mov (tm 0)),
 o1 43 (.nilCheck (tm 42)),
 o1 44 (.fieldAddr 1 (tm 43)),
 o1 45 (.load none (tm 44)),
 o1 46 (.sliceSl 1 (tm 35) (some (tm 41)) (some (tm 45)) none),
 o2 47 (.callV (tm 31) [(tm 46)]),
 ⟨none, .store 32 (tm 8) (tm 47), none, [], true⟩]) .ret))))
def zydQ : AFunc := ⟨48, [(8, some (some 32))], zydQ_c, none⟩
theorem zydQ_t0 : tableOf Tryz.prog 141 = some zydQ := by kernel_rfl
theorem zydQ_t : T0 141 = some zydQ := withKept_t rfl (withTrue_t rfl zydQ_t0)
theorem zydQ_runs {v0 v1 v2 v3 : Value} {h : Heap} {R : RP} {X : XP} (k : RunC Tryz.prog T0 zydQ_c ⟨[v0, v1, v2, v3, U, U, U, U, U, U, U, U, U, U, U, U, U, U, U, U, U, U, U, U, U, U, U, U, U, U, U, U, U, U, U, U, U, U, U, U, U, U, U, U, U, U, U, U], [], h, none⟩ (bodyQ Tryz.prog T0 [(8, some (some 32))] R X)) :
 Runs Tryz.prog T0 (.fn 141) [v0, v1, v2, v3] h R X := Runs.fn zydQ_t rfl k
abbrev fn_zvcQ : FuncId := 142
def zvcQ_c : ACode :=
 (.seq (.region [
 o1 2 (.alloc 28 z32)]) (.seq (.region [
 o1 3 (.mov (tm 0)),
 o1 4 (.arrayAt 32 (tm 3)),
 o1 5 (.load (some 32) (tm 4)),
 o3 (.store 32 (tm 2) (tm 5))]) .ret))
def zvcQ : AFunc := ⟨6, [(2, some (some 32))], zvcQ_c, none⟩
theorem zvcQ_t0 : tableOf Tryz.prog 142 = some zvcQ := by kernel_rfl
theorem zvcQ_t : T0 142 = some zvcQ := withKept_t rfl (withTrue_t rfl zvcQ_t0)
theorem zvcQ_runs {v0 : Value} {h : Heap} {R : RP} {X : XP} (k : RunC Tryz.prog T0 zvcQ_c ⟨[v0, U, U, U, U, U], [], h, none⟩ (bodyQ Tryz.prog T0 [(2, some (some 32))] R X)) :
 Runs Tryz.prog T0 (.fn 142) [v0] h R X := Runs.fn zvcQ_t rfl k
abbrev fn_zwdQ : FuncId := 143
def zwdQ_c : ACode :=
 (.seq (.region [
 o1 4 (.mov (.const (.int .u64 0)))]) (.seq (.seq (.region [
 o1 5 (.mov (tm 0)),
 o1 6 (.eq .ptr false (so (.binOp .eql 69 (tm 5) (.const (.pointer none)) 69) 4) (tm 5) (.const (.pointer none))),
 o1 7 (.mov (tm 6)),
 o5 8 (.mov (tm 0)) 7,
 o5 9 (.nilCheck (tm 8)) 7,
 o5 10 (.fieldAddr 4 (tm 9)) 7,
 o5 11 (.load none (tm 10)) 7,
 o5 12 (.raw (so (.unOp .not 4 (tm 11)) 4)) 7,
 o1 13 (.pick (tm 7) (.const (.bool true)) (tm 12)),
 o1 14 (.mov (tm 13)),
 o5 15 (.mov (tm 0)) 14,
 o5 16 (.nilCheck (tm 15)) 14,
 o5 17 (.fieldAddr 2 (tm 16)) 14,
 o5 18 (.fieldAddr 0 (tm 17)) 14,
 o5 19 (.load none (tm 18)) 14,
 o5 20 (.bin .neq (so (.binOp .neq 41 (tm 19) k0 41) 4) (tm 19) k0) 14,
 o1 21 (.pick (tm 14) (.const (.bool true)) (tm 20))]) (.cond (tm 21)
 (.seq (.region [
 o1 22 (.mov (tm 4)),
 o1 4 (.mov (tm 22))]) .ret)
 .skip)) (.seq (.region [
 o1 23 (.mov (tm 0)),
 o3 (.defer (.func 114) [(tm 23)])]) (.seq (.region [
 o1 24 (.mov (tm 1)),
 o1 25 (.mov (tm 0)),
 o1 26 (.nilCheck (tm 25)),
 o1 27 (.fieldAddr 1 (tm 26)),
 o1 28 (.load none (tm 27)),
 o1 29 (.callV (tm 24) [(tm 28)]),
 o1 4 (.mov (tm 29))]) .ret))))
def zwdQ : AFunc := ⟨30, [(4, none)], zwdQ_c, none⟩
theorem zwdQ_t0 : tableOf Tryz.prog 143 = some zwdQ := by kernel_rfl
theorem zwdQ_t : T0 143 = some zwdQ := withKept_t rfl (withTrue_t rfl zwdQ_t0)
theorem zwdQ_runs {v0 v1 : Value} {h : Heap} {R : RP} {X : XP} (k : RunC Tryz.prog T0 zwdQ_c ⟨[v0, v1, U, U, U, U, U, U, U, U, U, U, U, U, U, U, U, U, U, U, U, U, U, U, U, U, U, U, U, U], [], h, none⟩ (bodyQ Tryz.prog T0 [(4, none)] R X)) :
 Runs Tryz.prog T0 (.fn 143) [v0, v1] h R X := Runs.fn zwdQ_t rfl k
abbrev fn_zddQ : FuncId := 144
def zddQ_c : ACode :=
 (.seq (.region [
 o1 3 (.mov (.const (.int .u64 0)))]) (.seq (.region [
 o1 4 (.load none (tm 1)),
 o1 5 (.mov (tm 0)),
 o1 6 (.callV (.func 115) [(tm 4), (.const (.int .i64 8)), (tm 5), (.func 116)]),
 o1 3 (.mov (tm 6))]) .ret))
def zddQ : AFunc := ⟨7, [(3, none)], zddQ_c, none⟩
theorem zddQ_t0 : tableOf Tryz.prog 144 = some zddQ := by kernel_rfl
theorem zddQ_t : T0 144 = some zddQ := withKept_t rfl (withTrue_t rfl zddQ_t0)
theorem zddQ_runs {v0 v1 : Value} {h : Heap} {R : RP} {X : XP} (k : RunC Tryz.prog T0 zddQ_c ⟨[v0, v1, U, U, U, U, U], [], h, none⟩ (bodyQ Tryz.prog T0 [(3, none)] R X)) :
 Runs Tryz.prog T0 (.fn 144) [v0, v1] h R X := Runs.fn zddQ_t rfl k
abbrev fn_zudQ : FuncId := 145
def zudQ_c : ACode :=
 (.seq (.region [
 o1 4 (.alloc 130 [(.int .u8 0), (.int .u8 0), (.int .u8 0), (.int .u8 0)])]) (.seq (.seq (.region [
 o1 5 (.mov (tm 0)),
 o1 6 (.eq .ptr false (so (.binOp .eql 69 (tm 5) (.const (.pointer none)) 69) 4) (tm 5) (.const (.pointer none))),
 o1 7 (.mov (tm 6)),
 o5 8 (.mov (tm 0)) 7,
 o5 9 (.nilCheck (tm 8)) 7,
 o5 10 (.fieldAddr 4 (tm 9)) 7,
 o5 11 (.load none (tm 10)) 7,
 o5 12 (.raw (so (.unOp .not 4 (tm 11)) 4)) 7,
 o1 13 (.pick (tm 7) (.const (.bool true)) (tm 12)),
 o1 14 (.mov (tm 13)),
 o5 15 (.mov (tm 0)) 14,
 o5 16 (.nilCheck (tm 15)) 14,
 o5 17 (.fieldAddr 2 (tm 16)) 14,
 o5 18 (.fieldAddr 0 (tm 17)) 14,
 o5 19 (.load none (tm 18)) 14,
 o5 20 (.bin .neq (so (.binOp .neq 41 (tm 19) k0 41) 4) (tm 19) k0) 14,
 o1 21 (.pick (tm 14) (.const (.bool true)) (tm 20))]) (.cond (tm 21)
 (.seq (.region [
 o1 22 (.load (some 4) (tm 4)),
 o3 (.store 4 (tm 4) (tm 22))]) .ret)
 .skip)) (.seq (.region [
 o1 23 (.mov (tm 0)),
 o3 (.defer (.func 114) [(tm 23)])]) (.seq (.region [
 o1 24 (.mov (tm 1)),
 o1 25 (.mov (tm 0)),
 o1 26 (.nilCheck (tm 25)),
 o1 27 (.fieldAddr 1 (tm 26)),
 o1 28 (.load none (tm 27)),
 o1 29 (.callV (tm 24) [(tm 28)]),
 o3 (.store 4 (tm 4) (tm 29))]) .ret))))
def zudQ : AFunc := ⟨30, [(4, some (some 4))], zudQ_c, none⟩
theorem zudQ_t0 : tableOf Tryz.prog 145 = some zudQ := by kernel_rfl
theorem zudQ_t : T0 145 = some zudQ := withKept_t rfl (withTrue_t rfl zudQ_t0)
theorem zudQ_runs {v0 v1 : Value} {h : Heap} {R : RP} {X : XP} (k : RunC Tryz.prog T0 zudQ_c ⟨[v0, v1, U, U, U, U, U, U, U, U, U, U, U, U, U, U, U, U, U, U, U, U, U, U, U, U, U, U, U, U], [], h, none⟩ (bodyQ Tryz.prog T0 [(4, some (some 4))] R X)) :
 Runs Tryz.prog T0 (.fn 145) [v0, v1] h R X := Runs.fn zudQ_t rfl k
abbrev fn_zxcQ : FuncId := 146
def zxcQ_c : ACode :=
 (.seq (.region [
 o1 3 (.alloc 130 [(.int .u8 0), (.int .u8 0), (.int .u8 0), (.int .u8 0)])]) (.seq (.region [
 o1 4 (.load none (tm 1)),
 o1 5 (.mov (tm 0)),
 o1 6 (.callV (.func 147) [(tm 4), (.const (.int .i64 4)), (tm 5), (.func 148)]),
 o3 (.store 4 (tm 3) (tm 6))]) .ret))
def zxcQ : AFunc := ⟨7, [(3, some (some 4))], zxcQ_c, none⟩
theorem zxcQ_t0 : tableOf Tryz.prog 146 = some zxcQ := by kernel_rfl
theorem zxcQ_t : T0 146 = some zxcQ := withKept_t rfl (withTrue_t rfl zxcQ_t0)
theorem zxcQ_runs {v0 v1 : Value} {h : Heap} {R : RP} {X : XP} (k : RunC Tryz.prog T0 zxcQ_c ⟨[v0, v1, U, U, U, U, U], [], h, none⟩ (bodyQ Tryz.prog T0 [(3, some (some 4))] R X)) :
 Runs Tryz.prog T0 (.fn 146) [v0, v1] h R X := Runs.fn zxcQ_t rfl k
abbrev fn_zzdQ : FuncId := 147
def zzdQ_c : ACode :=
 (.seq (.region [
 o1 8 (.alloc 130 [(.int .u8 0), (.int .u8 0), (.int .u8 0), (.int .u8 0)])]) (.seq (.regionD [
 o1 9 (.mov (tm 1)),
 o1 10 (.mov (tm 0)),
 o1 11 (.nilCheck (tm 10)),
 o1 12 (.fieldAddr 0 (tm 11)),
 o1 13 (.load none (tm 12)),
 o1 14 (.lenSl (tm 13)),
 o1 15 (.mov (tm 0)),
 o1 16 (.nilCheck (tm 15)),
 o1 17 (.fieldAddr 1 (tm 16)),
 o1 18 (.load none (tm 17)),
 o1 19 (.bin .sub (so (.binOp .sub 3 (tm 14) (tm 18) 3) 3) (tm 14) (tm 18)),
 o1 20 (.bin .leq (so (.binOp .leq 3 (tm 9) (tm 19) 3) 4) (tm 9) (tm 19)),
 o1 21 (.mov (tm 2)),
 o2 22 (.callV (.func 78) [(tm 20), (.const (.int .i64 6)), (tm 21)])]) (.seq (.region [
 o1 23 (.mov (tm 0)),
 o1 24 (.nilCheck (tm 23)),
 o1 25 (.fieldAddr 1 (tm 24)),
 o1 26 (.load none (tm 25)),
 o1 27 (.mov (tm 1)),
 o1 28 (.bin .add (so (.binOp .add 3 (tm 26) (tm 27) 3) 3) (tm 26) (tm 27)),
 o1 29 (.nilCheck (tm 23)),
 o1 30 (.fieldAddr 1 (tm 29)),
 o3 (.store 1 (tm 30) (tm 28))]) (.seq (.regionD [
 o1 31 (.mov (tm 3)),
 o1 32 (.mov (tm 0)),
 o1 33 (.nilCheck (tm 32)),
 o1 34 (.fieldAddr 0 (tm 33)),
 o1 35 (.load none (tm 34)),
 o1 36 (.mov (tm 0)),
 o1 37 (.nilCheck (tm 36)),
 o1 38 (.fieldAddr 1 (tm 37)),
 o1 39 (.load none (tm 38)),
 o1 40 (.mov (tm 1)),
 o1 41 (.bin .sub (so (.binOp .sub 3 (tm 39) (tm 40) 3) 3) (tm 39) (tm 40)),
 o1 42 (.mov (tm 0)),
 o1 43 (.nilCheck (tm 42)),
 o1 44 (.fieldAddr 1 (tm 43)),
 o1 45 (.load none (tm 44)),
 o1 46 (.sliceSl 1 (tm 35) (some (tm 41)) (some (tm 45)) none),
 o2 47 (.callV (tm 31) [(tm 46)]),
 ⟨none, .store 4 (tm 8) (tm 47), none, [], true⟩]) .ret))))
def zzdQ : AFunc := ⟨48, [(8, some (some 4))], zzdQ_c, none⟩
theorem zzdQ_t0 : tableOf Tryz.prog 147 = some zzdQ := by kernel_rfl
theorem zzdQ_t : T0 147 = some zzdQ := withKept_t rfl (withTrue_t rfl zzdQ_t0)
theorem zzdQ_runs {v0 v1 v2 v3 : Value} {h : Heap} {R : RP} {X : XP} (k : RunC Tryz.prog T0 zzdQ_c ⟨[v0, v1, v2, v3, U, U, U, U, U, U, U, U, U, U, U, U, U, U, U, U, U, U, U, U, U, U, U, U, U, U, U, U, U, U, U, U, U, U, U, U, U, U, U, U, U, U, U, U], [], h, none⟩ (bodyQ Tryz.prog T0 [(8, some (some 4))] R X)) :
 Runs Tryz.prog T0 (.fn 147) [v0, v1, v2, v3] h R X := Runs.fn zzdQ_t rfl k
abbrev fn_zycQ : FuncId := 148
def zycQ_c : ACode :=
 (.seq (.region [
 o1 2 (.alloc 130 [(.int .u8 0), (.int .u8 0), (.int .u8 0), (.int .u8 0)])]) (.seq (.region [
 o1 3 (.mov (tm 0)),
 o1 4 (.arrayAt 4 (tm 3)),
 o1 5 (.load (some 4) (tm 4)),
 o3 (.store 4 (tm 2) (tm 5))]) .ret))
def zycQ : AFunc := ⟨6, [(2, some (some 4))], zycQ_c, none⟩
theorem zycQ_t0 : tableOf Tryz.prog 148 = some zycQ := by kernel_rfl
theorem zycQ_t : T0 148 = some zycQ := withKept_t rfl (withTrue_t rfl zycQ_t0)
theorem zycQ_runs {v0 : Value} {h : Heap} {R : RP} {X : XP} (k : RunC Tryz.prog T0 zycQ_c ⟨[v0, U, U, U, U, U], [], h, none⟩ (bodyQ Tryz.prog T0 [(2, some (some 4))] R X)) :
 Runs Tryz.prog T0 (.fn 148) [v0] h R X := Runs.fn zycQ_t rfl k
abbrev fn_zabQ : FuncId := 154
def zabQ_c : ACode :=
 (.seq (.region [
 o1 1 (.box 30 (tm 0)),
 o1 2 (.mov (.const (.bool false)))]) (.seq (.region [
 o1 3 (.fieldAddr 0 (tm 1)),
 o1 4 (.load none (tm 3)),
 o1 5 (.callV (.func 155) [(tm 4)]),
 o1 2 (.mov (tm 5))]) .ret))
def zabQ : AFunc := ⟨6, [(2, none)], zabQ_c, none⟩
theorem zabQ_t0 : tableOf Tryz.prog 154 = some zabQ := by kernel_rfl
theorem zabQ_t : T0 154 = some zabQ := withKept_t rfl (withTrue_t rfl zabQ_t0)
theorem zabQ_runs {v0 : Value} {h : Heap} {R : RP} {X : XP} (k : RunC Tryz.prog T0 zabQ_c ⟨[v0, U, U, U, U, U], [], h, none⟩ (bodyQ Tryz.prog T0 [(2, none)] R X)) :
 Runs Tryz.prog T0 (.fn 154) [v0] h R X := Runs.fn zabQ_t rfl k
abbrev fn_zvQ : FuncId := 155
def zvQ_c : ACode :=
 (.seq (.region [
 o1 2 (.mov (.const (.bool false)))]) (.seq (.region [
 o1 3 (.mov (tm 0)),
 o1 4 (.lenStr (tm 3)),
 o1 5 (.bin .geq (so (.binOp .geq 3 (tm 4) (.const (.int .i64 1)) 3) 4) (tm 4) (.const (.int .i64 1))),
 o1 6 (.mov (tm 5)),
 o4 7 (.mov (tm 0)) 6,
 o4 8 (.lenStr (tm 7)) 6,
 o4 9 (.bin .leq (so (.binOp .leq 3 (tm 8) (.const (.int .i64 32)) 3) 4) (tm 8) (.const (.int .i64 32))) 6,
 o1 10 (.pick (tm 6) (tm 9) (.const (.bool false))),
 o1 11 (.mov (tm 10)),
 o4 12 (.mov (tm 0)) 11,
 o4 13 (.callV (.func 161) [(tm 12), (.func 162)]) 11,
 o1 14 (.pick (tm 11) (tm 13) (.const (.bool false))),
 o1 2 (.mov (tm 14))]) .ret))
def zvQ : AFunc := ⟨15, [(2, none)], zvQ_c, none⟩
theorem zvQ_t0 : tableOf Tryz.prog 155 = some zvQ := by kernel_rfl
theorem zvQ_t : T0 155 = some zvQ := withKept_t rfl (withTrue_t rfl zvQ_t0)
theorem zvQ_runs {v0 : Value} {h : Heap} {R : RP} {X : XP} (k : RunC Tryz.prog T0 zvQ_c ⟨[v0, U, U, U, U, U, U, U, U, U, U, U, U, U, U], [], h, none⟩ (bodyQ Tryz.prog T0 [(2, none)] R X)) :
 Runs Tryz.prog T0 (.fn 155) [v0] h R X := Runs.fn zvQ_t rfl k
abbrev fn_zbbQ : FuncId := 156
def zbbQ_c : ACode :=
 (.seq (.region [
 o1 1 (.box 30 (tm 0)),
 o1 2 (.mov (.const (.bool false)))]) (.seq (.region [
 o1 3 (.fieldAddr 1 (tm 1)),
 o1 4 (.load none (tm 3)),
 o1 5 (.bin .geq (so (.binOp .geq 3 (tm 4) (.const (.int .i64 1)) 3) 4) (tm 4) (.const (.int .i64 1))),
 o1 6 (.mov (tm 5)),
 o4 7 (.fieldAddr 1 (tm 1)) 6,
 o4 8 (.load none (tm 7)) 6,
 o4 9 (.bin .leq (so (.binOp .leq 3 (tm 8) (.const (.int .i64 1073741824)) 3) 4) (tm 8) (.const (.int .i64 1073741824))) 6,
 o1 10 (.pick (tm 6) (tm 9) (.const (.bool false))),
 o1 2 (.mov (tm 10))]) .ret))
def zbbQ : AFunc := ⟨11, [(2, none)], zbbQ_c, none⟩
theorem zbbQ_t0 : tableOf Tryz.prog 156 = some zbbQ := by kernel_rfl
theorem zbbQ_t : T0 156 = some zbbQ := withKept_t rfl (withTrue_t rfl zbbQ_t0)
theorem zbbQ_runs {v0 : Value} {h : Heap} {R : RP} {X : XP} (k : RunC Tryz.prog T0 zbbQ_c ⟨[v0, U, U, U, U, U, U, U, U, U, U], [], h, none⟩ (bodyQ Tryz.prog T0 [(2, none)] R X)) :
 Runs Tryz.prog T0 (.fn 156) [v0] h R X := Runs.fn zbbQ_t rfl k
abbrev fn_zcbQ : FuncId := 157
def zcbQ_c : ACode :=
 (.seq (.region [
 o1 1 (.box 30 (tm 0)),
 o1 2 (.mov (.const (.bool false)))]) (.seq (.region [
 o1 3 (.fieldAddr 2 (tm 1)),
 o1 4 (.load none (tm 3)),
 o1 5 (.bin .geq (so (.binOp .geq 3 (tm 4) k0 3) 4) (tm 4) k0),
 o1 6 (.mov (tm 5)),
 o4 7 (.fieldAddr 2 (tm 1)) 6,
 o4 8 (.load none (tm 7)) 6,
 o4 9 (.bin .leq (so (.binOp .leq 3 (tm 8) (.const (.int .i64 1099511627776)) 3) 4) (tm 8) (.const (.int .i64 1099511627776))) 6,
 o1 10 (.pick (tm 6) (tm 9) (.const (.bool false))),
 o1 2 (.mov (tm 10))]) .ret))
def zcbQ : AFunc := ⟨11, [(2, none)], zcbQ_c, none⟩
theorem zcbQ_t0 : tableOf Tryz.prog 157 = some zcbQ := by kernel_rfl
theorem zcbQ_t : T0 157 = some zcbQ := withKept_t rfl (withTrue_t rfl zcbQ_t0)
theorem zcbQ_runs {v0 : Value} {h : Heap} {R : RP} {X : XP} (k : RunC Tryz.prog T0 zcbQ_c ⟨[v0, U, U, U, U, U, U, U, U, U, U], [], h, none⟩ (bodyQ Tryz.prog T0 [(2, none)] R X)) :
 Runs Tryz.prog T0 (.fn 157) [v0] h R X := Runs.fn zcbQ_t rfl k
abbrev fn_zmQ : FuncId := 158
def zmQ_c : ACode :=
 (.seq (.region [
 o1 4 (.mov k0)]) (.seq (.region [
 o1 5 (.mov (tm 0)),
 o1 6 (.mov (tm 1)),
 o1 7 (.ext .compare (.func 163) [(tm 5), (tm 6)]),
 o1 4 (.mov (tm 7))]) .ret))
def zmQ : AFunc := ⟨8, [(4, none)], zmQ_c, none⟩
theorem zmQ_t0 : tableOf Tryz.prog 158 = some zmQ := by kernel_rfl
theorem zmQ_t : T0 158 = some zmQ := withKept_t rfl (withTrue_t rfl zmQ_t0)
theorem zmQ_runs {v0 v1 : Value} {h : Heap} {R : RP} {X : XP} (k : RunC Tryz.prog T0 zmQ_c ⟨[v0, v1, U, U, U, U, U, U], [], h, none⟩ (bodyQ Tryz.prog T0 [(4, none)] R X)) :
 Runs Tryz.prog T0 (.fn 158) [v0, v1] h R X := Runs.fn zmQ_t rfl k
abbrev fn_zrQ : FuncId := 159
def zrQ_c : ACode :=
 (.seq (.region [
 o1 2 (.box 134 (tm 0)),
 o1 3 (.mov k0)]) (.seq (.block 0 (.seq (.region [
 o1 5 (.fieldAddr 0 (tm 2)),
 o1 6 (.load none (tm 5)),
 o1 7 (.bin .lss (so (.binOp .lss 3 (tm 6) k0 3) 4) (tm 6) k0),
 o1 8 (.mov (tm 7)),
 o5 9 (.fieldAddr 0 (tm 2)) 8,
 o5 10 (.load none (tm 9)) 8,
 o5 11 (.bin .geq (so (.binOp .geq 3 (tm 10) (.const (.int .i64 64)) 3) 4) (tm 10) (.const (.int .i64 64))) 8,
 o1 12 (.pick (tm 8) (.const (.bool true)) (tm 11)),
 o1 4 (.mov (tm 12))]) (.cond (tm 4)
 (.seq (.region [
 o1 3 (.mov (.const (.int .i64 3)))]) .ret)
 (.seq (.region [
 o1 14 (.fieldAddr 0 (tm 2)),
 o1 15 (.load none (tm 14)),
 o1 16 (.load none (tm 1)),
 o1 17 (.bin .leq (so (.binOp .leq 3 (tm 15) (tm 16) 3) 4) (tm 15) (tm 16)),
 o1 13 (.mov (tm 17))]) (.cond (tm 13)
 (.seq (.region [
 o1 3 (.mov (.const (.int .i64 9)))]) .ret)
 .skip))))) (.seq (.region [
 o1 18 (.fieldAddr 0 (tm 2)),
 o1 19 (.load none (tm 18)),
 o3 (.store 1 (tm 1) (tm 19))]) (.seq (.region [
 o1 3 (.mov k0)]) .ret))))
def zrQ : AFunc := ⟨20, [(3, none)], zrQ_c, none⟩
theorem zrQ_t0 : tableOf Tryz.prog 159 = some zrQ := by kernel_rfl
theorem zrQ_t : T0 159 = some zrQ := withKept_t rfl (withTrue_t rfl zrQ_t0)
theorem zrQ_runs {v0 v1 : Value} {h : Heap} {R : RP} {X : XP} (k : RunC Tryz.prog T0 zrQ_c ⟨[v0, v1, U, U, U, U, U, U, U, U, U, U, U, U, U, U, U, U, U, U], [], h, none⟩ (bodyQ Tryz.prog T0 [(3, none)] R X)) :
 Runs Tryz.prog T0 (.fn 159) [v0, v1] h R X := Runs.fn zrQ_t rfl k
abbrev fn_zjcQ : FuncId := 160
def zjcQ_c : ACode :=
 (.seq (.region [
 o1 4 (.mov (.const (.slice none 0 0)))]) (.seq (.seq (.region [
 o1 5 (.mov (tm 1)),
 o1 6 (.bin .lss (so (.binOp .lss 3 (tm 5) k0 3) 4) (tm 5) k0)]) (.cond (tm 6)
 (.region [
 o1 7 (.mkIface 9 (.const (.string ⟨⟨[99, 97, 110, 110, 111, 116, 32, 98, 101, 32, 110, 101, 103, 97, 116, 105, 118, 101]⟩⟩))),
 o3 (.panic (tm 7))])
 .skip)) (.seq (.seq (.region [
 o1 8 (.mov (tm 1)),
 o1 9 (.mov (tm 0)),
 o1 10 (.cap (tm 9)),
 o1 11 (.mov (tm 0)),
 o1 12 (.lenSl (tm 11)),
 o1 13 (.bin .sub (so (.binOp .sub 3 (tm 10) (tm 12) 3) 3) (tm 10) (tm 12)),
 o1 14 (.bin .sub (so (.binOp .sub 3 (tm 8) (tm 13) 3) 3) (tm 8) (tm 13)),
 o1 1 (.mov (tm 14))]) (.seq (.region [
 o1 15 (.mov (tm 1)),
 o1 16 (.bin .gtr (so (.binOp .gtr 3 (tm 15) k0 3) 4) (tm 15) k0)]) (.cond (tm 16)
 (.region [
 o1 17 (.mov (tm 0)),
 o1 18 (.mov (tm 0)),
 o1 19 (.cap (tm 18)),
 o1 20 (.sliceSl 1 (tm 17) none (some (tm 19)) none),
 o1 21 (.mov (tm 1)),
 o1 22 (.append 5 1 1 [(.int .u8 0)] true (tm 20) (tm 21)),
 o1 23 (.mov (tm 0)),
 o1 24 (.lenSl (tm 23)),
 o1 25 (.sliceSl 1 (tm 22) none (some (tm 24)) none),
 o1 0 (.mov (tm 25))])
 .skip))) (.seq (.region [
 o1 26 (.mov (tm 0)),
 o1 4 (.mov (tm 26))]) .ret))))
def zjcQ : AFunc := ⟨27, [(4, none)], zjcQ_c, none⟩
theorem zjcQ_t0 : tableOf Tryz.prog 160 = some zjcQ := by kernel_rfl
theorem zjcQ_t : T0 160 = some zjcQ := withKept_t rfl (withTrue_t rfl zjcQ_t0)
theorem zjcQ_runs {v0 v1 : Value} {h : Heap} {R : RP} {X : XP} (k : RunC Tryz.prog T0 zjcQ_c ⟨[v0, v1, U, U, U, U, U, U, U, U, U, U, U, U, U, U, U, U, U, U, U, U, U, U, U, U, U], [], h, none⟩ (bodyQ Tryz.prog T0 [(4, none)] R X)) :
 Runs Tryz.prog T0 (.fn 160) [v0, v1] h R X := Runs.fn zjcQ_t rfl k
abbrev fn_zwQ : FuncId := 161
def zwQ_l0 : ACode :=
 (.seq (.region [
 o1 9 (.nextStr (tm 8)),
 o1 10 (.extract 0 (tm 9))]) (.seq (.cond (tm 10)
 .skip
 (.exit 0)) (.block 1 (.seq (.region [
 o1 11 (.extract 2 (tm 9)),
 o1 6 (.mov (tm 11))]) (.seq (.region [
 o1 12 (.mov (tm 1)),
 o1 13 (.mov (tm 6)),
 o1 14 (.callV (tm 12) [(tm 13)]),
 o1 15 (.raw (so (.unOp .not 4 (tm 14)) 4))]) (.cond (tm 15)
 (.seq (.region [
 o1 4 (.mov (.const (.bool false)))]) .ret)
 .skip))))))
def zwQ_c : ACode :=
 (.seq (.region [
 o1 4 (.mov (.const (.bool false)))]) (.seq (.seq (.region [
 o1 7 (.mov (tm 0)),
 o1 8 (.rangeStr (tm 7))]) (.block 0 (.loop zwQ_l0))) (.seq (.region [
 o1 4 (.mov (.const (.bool true)))]) .ret)))
def zwQ : AFunc := ⟨16, [(4, none)], zwQ_c, none⟩
theorem zwQ_t0 : tableOf Tryz.prog 161 = some zwQ := by kernel_rfl
theorem zwQ_t : T0 161 = some zwQ := withKept_t rfl (withTrue_t rfl zwQ_t0)
theorem zwQ_runs {v0 v1 : Value} {h : Heap} {R : RP} {X : XP} (k : RunC Tryz.prog T0 zwQ_c ⟨[v0, v1, U, U, U, U, U, U, U, U, U, U, U, U, U, U], [], h, none⟩ (bodyQ Tryz.prog T0 [(4, none)] R X)) :
 Runs Tryz.prog T0 (.fn 161) [v0, v1] h R X := Runs.fn zwQ_t rfl k
def zwQ_l0_J (f0 f1 f2 f3 f5 f7 f8 : Value) (ds : List Deferred) (rd : Option Nat) (I : Nat → Heap → Prop) (m : Nat) (s : St) : Prop := ∃ h : Heap, ∃ (x4 x6 x9 x10 x11 x12 x13 x14 x15 : Value), s = ⟨[f0, f1, f2, f3, x4, f5, x6, f7, f8, x9, x10, x11, x12, x13, x14, x15], ds, h, rd⟩ ∧ I m  h
theorem zwQ_l0_rule {f0 f1 f2 f3 f5 f7 f8 : Value} {ds : List Deferred} {rd : Option Nat} {Q : QP} (I : Nat → Heap → Prop) (hb : ∀ (m : Nat) (h : Heap) (x4 x6 x9 x10 x11 x12 x13 x14 x15 : Value) , I m  h → RunC Tryz.prog T0 zwQ_l0 ⟨[f0, f1, f2, f3, x4, f5, x6, f7, f8, x9, x10, x11, x12, x13, x14, x15], ds, h, rd⟩ (loopQ (zwQ_l0_J f0 f1 f2 f3 f5 f7 f8 ds rd I) m Q))
 (m : Nat) {v : Value} {h : Heap} {x4 x6 x9 x10 x11 x12 x13 x14 x15 : Value} (hi : I m  h) : RunC Tryz.prog T0 (.loop zwQ_l0) ⟨[f0, f1, f2, f3, x4, f5, x6, f7, f8, x9, x10, x11, x12, x13, x14, x15], ds, h, rd⟩ Q :=
 RunC.loopJ (zwQ_l0_J f0 f1 f2 f3 f5 f7 f8 ds rd I) (fun m s hj => by obtain ⟨h, x4, x6, x9, x10, x11, x12, x13, x14, x15, rfl, hi⟩ := hj; exact hb m  h x4 x6 x9 x10 x11 x12 x13 x14 x15 hi) m _ ⟨h, _, _, _, _, _, _, _, _, _, rfl, hi⟩
theorem zwQ_l0_again {f0 f1 f2 f3 f5 f7 f8 : Value} {ds : List Deferred} {rd : Option Nat} {Q : QP} {I : Nat → Heap → Prop} {m : Nat} (m' : Nat) {v : Value} {h : Heap} {x4 x6 x9 x10 x11 x12 x13 x14 x15 : Value} (hm : m' < m) (hi : I m'  h) : loopQ (zwQ_l0_J f0 f1 f2 f3 f5 f7 f8 ds rd I) m Q .normal ⟨[f0, f1, f2, f3, x4, f5, x6, f7, f8, x9, x10, x11, x12, x13, x14, x15], ds, h, rd⟩ :=
 loopQ.again m' hm ⟨h, _, _, _, _, _, _, _, _, _, rfl, hi⟩
abbrev fn_zyQ : FuncId := 162
def zyQ_c : ACode :=
 (.seq (.region [
 o1 2 (.mov (.const (.bool false)))]) (.seq (.region [
 o1 3 (.mov (tm 0)),
 o1 4 (.bin .geq (so (.binOp .geq 21 (tm 3) (.const (.int .i32 97)) 21) 4) (tm 3) (.const (.int .i32 97))),
 o1 5 (.mov (tm 4)),
 o4 6 (.mov (tm 0)) 5,
 o4 7 (.bin .leq (so (.binOp .leq 21 (tm 6) (.const (.int .i32 122)) 21) 4) (tm 6) (.const (.int .i32 122))) 5,
 o1 8 (.pick (tm 5) (tm 7) (.const (.bool false))),
 o1 9 (.mov (tm 8)),
 o5 10 (.mov (tm 0)) 9,
 o5 11 (.bin .geq (so (.binOp .geq 21 (tm 10) (.const (.int .i32 48)) 21) 4) (tm 10) (.const (.int .i32 48))) 9,
 o5 12 (.mov (tm 11)) 9,
 o4 13 (.mov (tm 0)) 12,
 o4 14 (.bin .leq (so (.binOp .leq 21 (tm 13) (.const (.int .i32 57)) 21) 4) (tm 13) (.const (.int .i32 57))) 12,
 o5 15 (.pick (tm 12) (tm 14) (.const (.bool false))) 9,
 o1 16 (.pick (tm 9) (.const (.bool true)) (tm 15)),
 o1 17 (.mov (tm 16)),
 o5 18 (.mov (tm 0)) 17,
 o5 19 (.bin .eql (so (.binOp .eql 21 (tm 18) (.const (.int .i32 45)) 21) 4) (tm 18) (.const (.int .i32 45))) 17,
 o1 20 (.pick (tm 17) (.const (.bool true)) (tm 19)),
 o1 2 (.mov (tm 20))]) .ret))
def zyQ : AFunc := ⟨21, [(2, none)], zyQ_c, none⟩
theorem zyQ_t0 : tableOf Tryz.prog 162 = some zyQ := by kernel_rfl
theorem zyQ_t : T0 162 = some zyQ := withKept_t rfl (withTrue_t rfl zyQ_t0)
theorem zyQ_runs {v0 : Value} {h : Heap} {R : RP} {X : XP} (k : RunC Tryz.prog T0 zyQ_c ⟨[v0, U, U, U, U, U, U, U, U, U, U, U, U, U, U, U, U, U, U, U, U], [], h, none⟩ (bodyQ Tryz.prog T0 [(2, none)] R X)) :
 Runs Tryz.prog T0 (.fn 162) [v0] h R X := Runs.fn zyQ_t rfl k
abbrev fn_zybQ : FuncId := 183
def zybQ_c : ACode :=
 (.seq (.region [
 o1 2 (.box 168 (tm 0)),
 o1 4 (.mov k0)]) (.seq (.seq (.region [
 o1 5 (.fieldAddr 0 (tm 2)),
 o1 6 (.load none (tm 5)),
 o1 7 (.callV (.func 36) [(tm 6)]),
 o1 8 (.raw (so (.unOp .not 4 (tm 7)) 4)),
 o1 9 (.mov (tm 8)),
 o5 10 (.fieldAddr 1 (tm 2)) 9,
 o5 11 (.load none (tm 10)) 9,
 o5 12 (.callV (.func 37) [(tm 11)]) 9,
 o5 13 (.raw (so (.unOp .not 4 (tm 12)) 4)) 9,
 o1 14 (.pick (tm 9) (.const (.bool true)) (tm 13))]) (.cond (tm 14)
 (.seq (.region [
 o1 4 (.mov (.const (.int .i64 3)))]) .ret)
 .skip)) (.seq (.region [
 o1 15 (.mov (tm 1)),
 o1 16 (.callV (.func 107) [(tm 15), (.const (.int .i64 1))])]) (.seq (.region [
 o1 17 (.mov (tm 1)),
 o1 18 (.fieldAddr 0 (tm 2)),
 o1 19 (.load none (tm 18)),
 o1 20 (.callV (.func 107) [(tm 17), (tm 19)])]) (.seq (.region [
 o1 21 (.mov (tm 1)),
 o1 22 (.fieldAddr 1 (tm 2)),
 o1 23 (.load none (tm 22)),
 o1 24 (.callV (.func 107) [(tm 21), (tm 23)]),
 o1 4 (.mov (tm 24))]) .ret)))))
def zybQ : AFunc := ⟨25, [(4, none)], zybQ_c, none⟩
theorem zybQ_t0 : tableOf Tryz.prog 183 = some zybQ := by kernel_rfl
theorem zybQ_t : T0 183 = some zybQ := withKept_t rfl (withTrue_t rfl zybQ_t0)
theorem zybQ_runs {v0 v1 : Value} {h : Heap} {R : RP} {X : XP} (k : RunC Tryz.prog T0 zybQ_c ⟨[v0, v1, U, U, U, U, U, U, U, U, U, U, U, U, U, U, U, U, U, U, U, U, U, U, U], [], h, none⟩ (bodyQ Tryz.prog T0 [(4, none)] R X)) :
 Runs Tryz.prog T0 (.fn 183) [v0, v1] h R X := Runs.fn zybQ_t rfl k
abbrev fn_zxbQ : FuncId := 184
def zxbQ_c : ACode :=
 (.seq (.region [
 o1 2 (.box 169 (tm 0)),
 o1 4 (.mov k0)]) (.seq (.seq (.region [
 o1 7 (.fieldAddr 0 (tm 2)),
 o1 8 (.load none (tm 7)),
 o1 9 (.callV (.func 36) [(tm 8)]),
 o1 10 (.raw (so (.unOp .not 4 (tm 9)) 4))]) (.cond (tm 10)
 (.seq (.region [
 o1 4 (.mov (.const (.int .i64 3)))]) .ret)
 .skip)) (.seq (.region [
 o1 12 (.fieldAddr 1 (tm 2)),
 o1 13 (.load (some 166) (tm 12)),
 o1 14 (.callV (.func 28) [(tm 13)]),
 o1 11 (.mov (tm 14)),
 o1 15 (.extract 0 (tm 11)),
 o1 16 (.extract 1 (tm 11)),
 o1 5 (.mov (tm 15)),
 o1 6 (.mov (tm 16))]) (.seq (.seq (.region [
 o1 17 (.mov (tm 6)),
 o1 18 (.bin .neq (so (.binOp .neq 41 (tm 17) k0 41) 4) (tm 17) k0)]) (.cond (tm 18)
 (.seq (.region [
 o1 19 (.mov (tm 6)),
 o1 4 (.mov (tm 19))]) .ret)
 .skip)) (.seq (.region [
 o1 20 (.mov (tm 1)),
 o1 21 (.callV (.func 107) [(tm 20), (.const (.int .i64 2))])]) (.seq (.region [
 o1 22 (.mov (tm 1)),
 o1 23 (.fieldAddr 0 (tm 2)),
 o1 24 (.load none (tm 23)),
 o1 25 (.callV (.func 107) [(tm 22), (tm 24)])]) (.seq (.region [
 o1 26 (.mov (tm 1)),
 o1 27 (.mov (tm 5)),
 o1 28 (.callV (.func 69) [(tm 26), (tm 27)]),
 o1 4 (.mov (tm 28))]) .ret)))))))
def zxbQ : AFunc := ⟨29, [(4, none)], zxbQ_c, none⟩
theorem zxbQ_t0 : tableOf Tryz.prog 184 = some zxbQ := by kernel_rfl
theorem zxbQ_t : T0 184 = some zxbQ := withKept_t rfl (withTrue_t rfl zxbQ_t0)
theorem zxbQ_runs {v0 v1 : Value} {h : Heap} {R : RP} {X : XP} (k : RunC Tryz.prog T0 zxbQ_c ⟨[v0, v1, U, U, U, U, U, U, U, U, U, U, U, U, U, U, U, U, U, U, U, U, U, U, U, U, U, U, U], [], h, none⟩ (bodyQ Tryz.prog T0 [(4, none)] R X)) :
 Runs Tryz.prog T0 (.fn 184) [v0, v1] h R X := Runs.fn zxbQ_t rfl k
def table : TT :=
 (.node (.node (.node (.node (.node (.node (.node .nil 7 zmbQ .nil) 8 zobQ (.node .nil 11 zvbQ .nil)) 13 zjbQ (.node (.node .nil 16 zfbQ .nil) 19 zebQ .nil)) 21 zubQ (.node (.node (.node .nil 23 ztbQ .nil) 25 zhbQ .nil) 26 zgbQ (.node (.node .nil 28 zbQ .nil) 29 zsbQ .nil))) 30 zwbQ (.node (.node (.node (.node .nil 31 zbcQ .nil) 32 zocQ (.node .nil 33 zzcQ .nil)) 34 zfcQ (.node (.node .nil 35 zgcQ .nil) 36 zccQ .nil)) 37 zacQ (.node (.node (.node .nil 38 zecQ .nil) 39 zqcQ .nil) 40 zaQ (.node (.node .nil 41 zscQ .nil) 54 zzbQ .nil)))) 60 zibQ (.node (.node (.node (.node (.node .nil 61 zkbQ .nil) 62 zeQ (.node .nil 63 zcQ .nil)) 64 ziQ (.node (.node .nil 65 zpcQ .nil) 66 zuQ .nil)) 67 zpQ (.node (.node (.node .nil 68 zmcQ .nil) 69 zhdQ .nil) 70 zidQ (.node (.node .nil 71 zdbQ .nil) 72 zhcQ .nil))) 73 zvdQ (.node (.node (.node (.node .nil 74 zfdQ .nil) 75 zadQ (.node .nil 76 zsdQ .nil)) 77 zrcQ (.node (.node .nil 78 zqdQ .nil) 79 zxdQ .nil)) 80 zhQ (.node (.node (.node .nil 81 ztQ .nil) 82 zgQ .nil) 83 zoQ (.node (.node .nil 84 zfQ .nil) 85 zlcQ .nil))))) 90 zdcQ (.node (.node (.node (.node (.node (.node .nil 98 zlbQ .nil) 99 zdQ (.node .nil 100 zjQ .nil)) 101 zsQ (.node (.node .nil 102 zkQ .nil) 103 zkcQ .nil)) 104 zlQ (.node (.node (.node .nil 105 znQ .nil) 106 zmdQ .nil) 107 zldQ (.node (.node .nil 108 zxQ .nil) 109 zjdQ .nil))) 110 zndQ (.node (.node (.node (.node .nil 111 zkdQ .nil) 112 zodQ (.node .nil 113 zrdQ .nil)) 114 zedQ (.node (.node .nil 115 zaeQ .nil) 116 zpdQ .nil)) 117 zgdQ (.node (.node (.node .nil 118 zbdQ .nil) 119 ztcQ .nil) 120 zcdQ (.node (.node .nil 121 zwcQ .nil) 134 zzQ .nil)))) 135 zncQ (.node (.node (.node (.node (.node .nil 136 zqQ .nil) 137 zbeQ (.node .nil 138 zicQ .nil)) 139 ztdQ (.node (.node .nil 140 zucQ .nil) 141 zydQ .nil)) 142 zvcQ (.node (.node (.node .nil 143 zwdQ .nil) 144 zddQ .nil) 145 zudQ (.node (.node .nil 146 zxcQ .nil) 147 zzdQ .nil))) 148 zycQ (.node (.node (.node (.node .nil 154 zabQ .nil) 155 zvQ .nil) 156 zbbQ (.node (.node .nil 157 zcbQ .nil) 158 zmQ .nil)) 159 zrQ (.node (.node (.node .nil 160 zjcQ .nil) 161 zwQ .nil) 162 zyQ (.node (.node .nil 183 zybQ .nil) 184 zxbQ .nil))))))
theorem table_all : table.All Tryz.prog := ⟨zdcQ_t0, ⟨zibQ_t0, ⟨zwbQ_t0, ⟨zubQ_t0, ⟨zjbQ_t0, ⟨zobQ_t0, ⟨zmbQ_t0, trivial, trivial⟩, ⟨zvbQ_t0, trivial, trivial⟩⟩, ⟨zebQ_t0, ⟨zfbQ_t0, trivial, trivial⟩, trivial⟩⟩, ⟨zgbQ_t0, ⟨zhbQ_t0, ⟨ztbQ_t0, trivial, trivial⟩, trivial⟩, ⟨zsbQ_t0, ⟨zbQ_t0, trivial, trivial⟩, trivial⟩⟩⟩, ⟨zacQ_t0, ⟨zfcQ_t0, ⟨zocQ_t0, ⟨zbcQ_t0, trivial, trivial⟩, ⟨zzcQ_t0, trivial, trivial⟩⟩, ⟨zccQ_t0, ⟨zgcQ_t0, trivial, trivial⟩, trivial⟩⟩, ⟨zaQ_t0, ⟨zqcQ_t0, ⟨zecQ_t0, trivial, trivial⟩, trivial⟩, ⟨zzbQ_t0, ⟨zscQ_t0, trivial, trivial⟩, trivial⟩⟩⟩⟩, ⟨zvdQ_t0, ⟨zpQ_t0, ⟨ziQ_t0, ⟨zeQ_t0, ⟨zkbQ_t0, trivial, trivial⟩, ⟨zcQ_t0, trivial, trivial⟩⟩, ⟨zuQ_t0, ⟨zpcQ_t0, trivial, trivial⟩, trivial⟩⟩, ⟨zidQ_t0, ⟨zhdQ_t0, ⟨zmcQ_t0, trivial, trivial⟩, trivial⟩, ⟨zhcQ_t0, ⟨zdbQ_t0, trivial, trivial⟩, trivial⟩⟩⟩, ⟨zhQ_t0, ⟨zrcQ_t0, ⟨zadQ_t0, ⟨zfdQ_t0, trivial, trivial⟩, ⟨zsdQ_t0, trivial, trivial⟩⟩, ⟨zxdQ_t0, ⟨zqdQ_t0, trivial, trivial⟩, trivial⟩⟩, ⟨zoQ_t0, ⟨zgQ_t0, ⟨ztQ_t0, trivial, trivial⟩, trivial⟩, ⟨zlcQ_t0, ⟨zfQ_t0, trivial, trivial⟩, trivial⟩⟩⟩⟩⟩, ⟨zncQ_t0, ⟨zndQ_t0, ⟨zlQ_t0, ⟨zsQ_t0, ⟨zdQ_t0, ⟨zlbQ_t0, trivial, trivial⟩, ⟨zjQ_t0, trivial, trivial⟩⟩, ⟨zkcQ_t0, ⟨zkQ_t0, trivial, trivial⟩, trivial⟩⟩, ⟨zldQ_t0, ⟨zmdQ_t0, ⟨znQ_t0, trivial, trivial⟩, trivial⟩, ⟨zjdQ_t0, ⟨zxQ_t0, trivial, trivial⟩, trivial⟩⟩⟩, ⟨zgdQ_t0, ⟨zedQ_t0, ⟨zodQ_t0, ⟨zkdQ_t0, trivial, trivial⟩, ⟨zrdQ_t0, trivial, trivial⟩⟩, ⟨zpdQ_t0, ⟨zaeQ_t0, trivial, trivial⟩, trivial⟩⟩, ⟨zcdQ_t0, ⟨ztcQ_t0, ⟨zbdQ_t0, trivial, trivial⟩, trivial⟩, ⟨zzQ_t0, ⟨zwcQ_t0, trivial, trivial⟩, trivial⟩⟩⟩⟩, ⟨zycQ_t0, ⟨zvcQ_t0, ⟨ztdQ_t0, ⟨zbeQ_t0, ⟨zqQ_t0, trivial, trivial⟩, ⟨zicQ_t0, trivial, trivial⟩⟩, ⟨zydQ_t0, ⟨zucQ_t0, trivial, trivial⟩, trivial⟩⟩, ⟨zudQ_t0, ⟨zddQ_t0, ⟨zwdQ_t0, trivial, trivial⟩, trivial⟩, ⟨zzdQ_t0, ⟨zxcQ_t0, trivial, trivial⟩, trivial⟩⟩⟩, ⟨zrQ_t0, ⟨zbbQ_t0, ⟨zvQ_t0, ⟨zabQ_t0, trivial, trivial⟩, trivial⟩, ⟨zmQ_t0, ⟨zcbQ_t0, trivial, trivial⟩, trivial⟩⟩, ⟨zyQ_t0, ⟨zwQ_t0, ⟨zjcQ_t0, trivial, trivial⟩, trivial⟩, ⟨zxbQ_t0, ⟨zybQ_t0, trivial, trivial⟩, trivial⟩⟩⟩⟩⟩⟩
end Go.Proofs.YtninaabbojcdpaaGreat.A

namespace Go.Proofs.YtninaabbojcdpaaGreat.A
open Go Go.Vm
set_option maxRecDepth 10000
set_option linter.unusedVariables false
theorem big_ok {h : Heap} {v : Value} {l : List UInt8} (hr : Rd h 1 v (bcells l) l.length) (hl : l.length ≤ 8) :
    Runs Tryz.prog T0 (.fn fn_zpdQ) [v] h (fun r h' => r = .int .u64 (bigN l) ∧ h' = h) (fun _ _ => False) := by
  obtain ⟨a, cap, rfl, hlen, hc⟩ := hr
  refine zpdQ_runs ?_
  refine stpDP ?_
  refine zpdQ_l0_rule (fun m v2 v7 h' => ∃ k : Nat, k ≤ l.length ∧ m = l.length - k ∧ v7 = .int .i64 k ∧ v2 = .int .u64 (bigN (l.take k)) ∧ h' = h) ?_ l.length ⟨0, by omega, rfl, rfl, rfl, rfl⟩
  rintro m v2 v7 h' x4 x8 x9 x10 x11 x12 x13 x14 x15 x16 ⟨k, hk, rfl, rfl, rfl, rfl⟩
  refine stpDP ?_
  refine C.if (fun hlt => ?_) (fun hge => ?_)
  · obtain ⟨b, o, sp, rfl, hb, hcc⟩ := hc (by omega)
    rw [Nat.mul_one] at hcc
    haveI := byte_cell (k := k) hcc (by omega)
    have h8 := bigN_take_lt (l := l) (k := k) (by omega)
    have hbt := (l.getD k 0).toNat_lt
    have hs := bigN_take (l := l) (k := k) (by omega)
    refine stpDP ?_
    refine O.how (XOp.shl8 ⟨by omega, by omega⟩) ?_
    refine stpDP ?_
    refine O.how (XOp.orByte (by omega) (by omega)) ?_
    refine stpDP ?_
    refine zpdQ_l0_again (l.length - (k + 1)) (by omega) ⟨k + 1, by omega, rfl, rfl, by rw [hs], rfl⟩
  · obtain rfl : k = l.length := by omega
    refine stpDP ?_
    rw [List.take_length]
    exact ⟨rfl, rfl⟩
end Go.Proofs.YtninaabbojcdpaaGreat.A

namespace Go.Proofs.YtninaabbojcdpaaGreat.A
open Go Go.Vm
set_option maxRecDepth 10000
set_option linter.unusedVariables false
def thrown (e a : Int) : List PanicEntry := [{ v := .iface ty_wire_wrong (.agg ⟨[.int .i64 e, .int .i64 a]⟩), recovered := false }]
theorem must_yes {h : Heap} {e a : Int} : Runs Tryz.prog T0 (.fn fn_zqdQ) [.bool true, .int .i64 e, .int .i64 a] h (fun r h' => h' = h) (fun _ _ => False) := by
  refine zqdQ_runs ?_
  refine stp ?_
  rfl
theorem must_no {h : Heap} {e a : Int} : Runs Tryz.prog T0 (.fn fn_zqdQ) [.bool false, .int .i64 e, .int .i64 a] h (fun r h' => False) (fun c h' => c = thrown e a ∧ h' = h) := by
  refine zqdQ_runs ?_
  refine stp ?_
  exact ⟨rfl, rfl⟩
theorem must_ok {h : Heap} {b : Bool} {e a : Int} : Runs Tryz.prog T0 (.fn fn_zqdQ) [.bool b, .int .i64 e, .int .i64 a] h (fun r h' => b = true ∧ h' = h) (fun c h' => b = false ∧ c = thrown e a ∧ h' = h) := by
  cases b with
  | true => exact must_yes.mono (fun _ _ h => ⟨rfl, h⟩) (fun _ _ h => h.elim)
  | false => exact must_no.mono (fun _ _ h => h.elim) (fun _ _ h => ⟨rfl, h⟩)
structure PR (h : Heap) (p : Nat) (sv : Value) (bs : List UInt8) (pl : Nat) (e fa : Int) : Prop where
  at_le : pl ≤ bs.length
  small : bs.length < 1048576
  lt : p < h.n
  get : h.get p = .cells [sv, .int .i64 pl, .int .i64 e, .int .i64 fa, .bool true] 0
  own : Own h 1 sv (bcells bs) bs.length
  apart : ¬ ownedBy sv p
theorem PR.keep {S : Nat → Prop} {h h' : Heap} {p : Nat} {sv : Value} {bs : List UInt8} {pl : Nat} {e fa : Int} (hp : PR h p sv bs pl e fa) (hf : Fr S h h') (hs : ¬ S p) (hb : ∀ i, ownedBy sv i → ¬ S i) : PR h' p sv bs pl e fa :=
  ⟨hp.at_le, hp.small, hf.lt hp.lt, by rw [hf.get p hp.lt hs, hp.get], hp.own.keep hf hb, hp.apart⟩
theorem PR.none {h h' : Heap} {p : Nat} {sv : Value} {bs : List UInt8} {pl : Nat} {e fa : Int} (hp : PR h p sv bs pl e fa) (hf : Fr (fun _ => False) h h') : PR h' p sv bs pl e fa := hp.keep hf id fun _ _ => id
theorem PR.turn {h : Heap} {p : Nat} {sv : Value} {bs : List UInt8} {pl pl' : Nat} {e fa e' fa' : Int} (hp : PR h p sv bs pl e fa) (hl : pl' ≤ bs.length) :
    PR (h.set p (.cells [sv, .int .i64 pl', .int .i64 e', .int .i64 fa', .bool true] 0)) p sv bs pl' e' fa' :=
  ⟨hl, hp.small, by simpa using hp.lt, by rw [Heap.get_set, if_pos rfl], hp.own.keep (S := fun i => i = p) (Fr.refl.set fun _ => rfl) fun b hb hbp => hp.apart (hbp ▸ hb), hp.apart⟩
theorem takeU64_ok {h : Heap} {p : Nat} {sv : Value} {bs : List UInt8} {pl n : Nat} {fa a0 : Int} {fid : FuncId} {first captured : List Value} {R : RP} (hr : PR h p sv bs pl 0 fa) (hn : n < 1048576)
    (hm : ∀ h1 v, Fr (fun i => i = p) h h1 → PR h1 p sv bs (pl + n) 0 fa → pl + n ≤ bs.length → (∀ i, blockOf v i → ownedBy sv i) → Rd h1 1 v (bcells ((bs.drop pl).take n)) n → Runs Tryz.prog T0 (.fn fid) (first ++ [v] ++ captured) h1 R (fun _ _ => False)) :
    Runs Tryz.prog T0 (.fn fn_zaeQ) [.pointer (some ⟨p, 0, none⟩), .int .i64 n, .int .i64 a0, .func (.func fid) ⟨first⟩ ⟨captured⟩] h R (fun c h' => bs.length < pl + n ∧ c = thrown 6 a0 ∧ h' = h) := by
  have hr' := hr
  obtain ⟨hle, hsm, hp, hget, hown, hnot⟩ := hr
  obtain ⟨a, cap, rfl, hlen, _⟩ := hown.rd
  haveI : HGet h p _ := ⟨hget⟩
  refine zaeQ_runs ?_
  refine stp ?_
  refine D.callX must_ok (fun v h' hv => rfl) (fun v h' hv => ?_) (fun c h' hx => ⟨rfl, ?_⟩)
  · obtain ⟨hle2, rfl⟩ := hv
    have hle2 : (n : Int) ≤ bs.length - pl := of_decide_eq_true hle2
    refine stp ?_
    have hp2 := hr'.turn (pl' := pl + n) (e' := 0) (fa' := fa) (by omega)
    refine D.slice pl (pl + n) (by omega) hp2.own (by omega) (by omega) (by omega) (by omega) (fun v' hbl hrd => ?_)
    rw [Nat.mul_one, Nat.mul_one, bcells_drop, bcells_take, Nat.add_sub_cancel_left] at hrd
    refine D.callX (hm _ v' (Fr.refl.set fun _ => rfl) hp2 (by omega) hbl hrd) (fun _ _ _ => rfl) (fun r h2 hr => ?_) (fun _ _ hx => hx.elim)
    refine stp ?_
    exact hr
  · obtain ⟨hlt, rfl, rfl⟩ := hx
    have hlt : ¬ (n : Int) ≤ bs.length - pl := of_decide_eq_false hlt
    refine stp ?_
    exact ⟨by omega, rfl, rfl⟩
end Go.Proofs.YtninaabbojcdpaaGreat.A

namespace Go.Proofs.YtninaabbojcdpaaGreat.A
open Go Go.Vm
set_option maxRecDepth 10000
set_option linter.unusedVariables false
def numS (bs : List UInt8) (pl : Nat) : Except Int (Nat × Nat) :=
  if bs.length < pl + 1 then .error 6 else
  if 8 < (bs.getD pl 0).toNat then .error 5 else
  if bs.length < pl + 1 + (bs.getD pl 0).toNat then .error 6 else
  if (0 < (bs.getD pl 0).toNat ∧ (((bs.drop (pl + 1)).take (bs.getD pl 0).toNat).getD 0 0).toNat = 0) ∨ 9223372036854775807 < bigN ((bs.drop (pl + 1)).take (bs.getD pl 0).toNat) then .error 5
  else .ok (bigN ((bs.drop (pl + 1)).take (bs.getD pl 0).toNat), pl + 1 + (bs.getD pl 0).toNat)
theorem num1_ok {h : Heap} {v : Value} {l : List UInt8} {a b : Nat} {k : Nat} {x : Int} (hr : Rd h 1 v (bcells l) l.length) (hl : l.length ≤ 8) (hk : k = l.length) [ha : HGet h a (.cells [.int .i64 k] 0)] [hb : HGet h b (.cells [.int .u8 x] 0)] (hv : ∀ i, blockOf v i → i ≠ b) :
    Runs Tryz.prog T0 (.fn fn_zgdQ) [v, .pointer (some ⟨a, 0, none⟩), .pointer (some ⟨b, 0, none⟩)] h
      (fun r h' => r = .int .u64 (bigN l) ∧ h' = if 0 < k then h.set b (.cells [.int .u8 (l.getD 0 0).toNat] 0) else h) (fun _ _ => False) := by
  have hr' := hr
  obtain ⟨ad, cap, rfl, hlen, hc⟩ := hr
  refine zgdQ_runs ?_
  refine stp ?_
  refine C.if (fun hpos => ?_) (fun hz => ?_)
  · obtain ⟨q, o, sp, rfl, hq, hcc⟩ := hc (by omega)
    rw [Nat.mul_one] at hcc
    haveI := byte_cell (k := 0) hcc (by omega)
    refine stp ?_
    refine O.call' (big_ok (l := l) (hr'.keep (S := fun i => i = b) (h' := h.set b (.cells [.int .u8 (l.getD 0 0).toNat] 0)) (Fr.refl.set fun _ => rfl) hv) hl) (fun r h' hr => ?_)
    obtain ⟨rfl, rfl⟩ := hr
    refine stp ?_
    rw [if_pos (by omega)]
    exact ⟨rfl, rfl⟩
  · refine stp ?_
    refine O.call' (big_ok (l := l) hr' hl) (fun r h' hr => ?_)
    obtain ⟨rfl, rfl⟩ := hr
    refine stp ?_
    rw [if_neg (by omega)]
    exact ⟨rfl, rfl⟩
theorem num_ok {h : Heap} {p : Nat} {sv : Value} {bs : List UInt8} {pl : Nat} {fa : Int} (hr : PR h p sv bs pl 0 fa) :
    Runs Tryz.prog T0 (.fn fn_zfdQ) [.pointer (some ⟨p, 0, none⟩), .int .i64 pl] h
      (fun r h' => ∃ n pl', numS bs pl = .ok (n, pl') ∧ r = .int .i64 n ∧ PR h' p sv bs pl' 0 fa ∧ Fr (fun i => i = p) h h')
      (fun c h' => ∃ e pl', numS bs pl = .error e ∧ c = thrown e pl ∧ PR h' p sv bs pl' 0 fa ∧ Fr (fun i => i = p) h h') := by
  have hple := hr.at_le
  have hsm := hr.small
  have hbt := (bs.getD pl 0).toNat_lt
  refine zfdQ_runs ?_
  refine stp ?_
  refine O.callX (takeU64_ok (n := 1) (R := fun r h2 => r = .int .u64 (bs.getD pl 0).toNat ∧ pl + 1 ≤ bs.length ∧ PR h2 p sv bs (pl + 1) 0 fa ∧ Fr (fun i => i = p) h h2) hr (by omega) (fun h1 v hf hp1 hle hbl hrd => ?_)) (fun r h1 hr1 => ?_) (fun c h1 hx => ?_)
  · have hl1 : ((bs.drop pl).take 1).length = 1 := by simp; omega
    refine (big_ok (l := (bs.drop pl).take 1) (by rw [hl1]; exact hrd) (by omega)).imp fun r h2 hr2 => ?_
    obtain ⟨rfl, rfl⟩ := hr2
    refine ⟨?_, hle, hp1, hf⟩
    have hd : (bs.drop pl).take 1 = [bs.getD pl 0] := by
      have := take_succ_getD (l := bs.drop pl) (k := 0) (by simp; omega)
      simpa [List.getD_eq_getElem?_getD] using this
    rw [hd]
    simp [bigN]
  · obtain ⟨rfl, hle, hp1, hf1⟩ := hr1
    generalize hk : (bs.getD pl 0).toNat = k at *
    refine stp ?_
    refine O.callX must_ok (fun r h2 hr2 => ?_) (fun c h2 hx => ?_)
    · obtain ⟨hk8, rfl⟩ := hr2
      have hk8 : (k : Int) ≤ 8 := of_decide_eq_true hk8
      refine stp ?_
      have hplt := hp1.lt
      generalize hd : (bs.drop (pl + 1)).take k = d
      have hdl : pl + 1 + k ≤ bs.length → d.length = k := fun h => by rw [← hd, List.length_take, List.length_drop]; omega
      refine O.callX (takeU64_ok (n := k) (R := fun r h2 => r = .int .u64 (bigN d) ∧ pl + 1 + k ≤ bs.length ∧ PR h2 p sv bs (pl + 1 + k) 0 fa ∧ Fr (fun i => i = p) h h2 ∧
        HGet h2 (h1.push (AObj.cells [Value.int IntKind.i64 k] 0)).n (.cells [.int .u8 (if 0 < k then (d.getD 0 0).toNat else 1 : Nat)] 0)) (hp1.none Fr.refl.push.push) (by omega) (fun h2 v hf hp2 hle2 hbl hrd => ?_)) (fun r h2 hr2 => ?_) (fun c h2 hx => ?_)
      · haveI : HGet h2 h1.n _ := hf.keep (b := h1.n) (HGet.push (k := BLt.new) (g := HGet.new)) (by simp; omega) (by omega)
        haveI : HGet h2 (h1.push (AObj.cells [Value.int IntKind.i64 k] 0)).n _ := hf.keep (b := (h1.push (AObj.cells [Value.int IntKind.i64 k] 0)).n) HGet.new (by simp) (by simp; omega)
        have hnew : ∀ i, ownedBy sv i → i ≠ (h1.push (AObj.cells [Value.int IntKind.i64 k] 0)).n := fun i hi => by have := hp1.own.lt hi; simp; omega
        have hfr : Fr (fun i => i = p) h h2 := hf1.trans' (Fr.trans (S := fun i => i = p) Fr.refl.push.push hf fun i _ hi => hi)
        rw [hd] at hrd
        refine (num1_ok (a := h1.n) (b := (h1.push (AObj.cells [Value.int IntKind.i64 k] 0)).n) (k := k) (l := d) (by rw [hdl hle2]; exact hrd) (by rw [hdl hle2]; omega) (hdl hle2).symm (fun i hi => hnew i (hbl i hi))).imp fun r h3 hr3 => ?_
        obtain ⟨rfl, rfl⟩ := hr3
        by_cases hk0 : 0 < k
        · rw [if_pos hk0, if_pos hk0]
          refine ⟨rfl, hle2, hp2.keep (S := fun i => i = _) (Fr.refl.set fun _ => rfl) (by simp; omega) hnew, hfr.set fun hlt => ?_, HGet.same⟩
          have := hf1.n
          simp at hlt; omega
        · rw [if_neg hk0, if_neg hk0]
          exact ⟨rfl, hle2, hp2, hfr, inferInstance⟩
      · obtain ⟨rfl, hle2, hp2, hf2, hg2⟩ := hr2
        have hbn : bigN d < 18446744073709551616 := by
          have := bigN_lt d
          have h2 : 256 ^ d.length ≤ 256 ^ 8 := Nat.pow_le_pow_right (by omega) (by rw [hdl hle2]; omega)
          omega
        refine stp ?_
        refine O.decN (fun hne => ?_) (fun heq => ?_)
        · refine stp ?_
          have hfirst : ¬ (0 < k ∧ (d.getD 0 0).toNat = 0) := fun ⟨h1, h2⟩ => hne (by rw [if_pos h1, h2]; rfl)
          refine O.callX must_ok (fun r h3 hr3 => ?_) (fun c h3 hx => ?_)
          · obtain ⟨hmax, rfl⟩ := hr3
            have hmax : (bigN d : Int) ≤ 9223372036854775807 := of_decide_eq_true hmax
            refine stp ?_
            refine ⟨bigN d, pl + 1 + k, ?_, rfl, hp2, hf2⟩
            unfold numS
            rw [hk, hd, if_neg (by omega), if_neg (by omega), if_neg (by omega), if_neg (fun h => h.elim hfirst fun h => by omega)]
          · obtain ⟨hmax, rfl, rfl⟩ := hx
            have hmax : ¬ (bigN d : Int) ≤ 9223372036854775807 := of_decide_eq_false hmax
            refine stp ?_
            refine ⟨5, pl + 1 + k, ?_, rfl, hp2, hf2⟩
            unfold numS
            rw [hk, hd, if_neg (by omega), if_neg (by omega), if_neg (by omega), if_pos (.inr (by omega))]
        · refine stp ?_
          have hfirst : 0 < k ∧ (d.getD 0 0).toNat = 0 := by
            by_cases h0 : 0 < k
            · rw [if_pos h0] at heq; exact ⟨h0, by omega⟩
            · rw [if_neg h0] at heq; cases heq
          refine O.callX must_no (fun r h3 hr3 => hr3.elim) (fun c h3 hx => ?_)
          obtain ⟨rfl, rfl⟩ := hx
          refine stp ?_
          refine ⟨5, pl + 1 + k, ?_, rfl, hp2, hf2⟩
          unfold numS
          rw [hk, hd, if_neg (by omega), if_neg (by omega), if_neg (by omega), if_pos (.inl hfirst)]
      · obtain ⟨hlt, rfl, rfl⟩ := hx
        refine stp ?_
        refine ⟨6, pl + 1, ?_, rfl, hp1.none Fr.refl.push.push, hf1.push.push⟩
        unfold numS
        rw [hk, if_neg (by omega), if_neg (by omega), if_pos (by omega)]
    · obtain ⟨hk8, rfl, rfl⟩ := hx
      have hk8 : ¬ (k : Int) ≤ 8 := of_decide_eq_false hk8
      refine stp ?_
      refine ⟨5, pl + 1, ?_, rfl, hp1.none Fr.refl.push, hf1.push⟩
      unfold numS
      rw [hk, if_neg (by omega), if_pos (by omega)]
  · obtain ⟨hlt, rfl, rfl⟩ := hx
    refine stp ?_
    refine ⟨6, pl, ?_, rfl, hr, Fr.refl⟩
    unfold numS
    rw [if_pos (by omega)]
end Go.Proofs.YtninaabbojcdpaaGreat.A

namespace Go.Proofs.YtninaabbojcdpaaGreat.A
open Go Go.Vm
set_option maxRecDepth 10000
set_option linter.unusedVariables false
theorem caught_none {h : Heap} {v : Value} : RunDf Tryz.prog T0 fn_zedQ [v] .returning h (fun u h' => u = .returning ∧ h' = h) (fun _ _ _ => False) := by
  refine zedQ_df ?_
  refine dstp ?_
  exact ⟨rfl, rfl⟩
theorem caught_ok {h : Heap} {p : Nat} {sv : Value} {bs : List UInt8} {pl : Nat} {e fa x a : Int} (hr : PR h p sv bs pl e fa) :
    RunDf Tryz.prog T0 fn_zedQ [.pointer (some ⟨p, 0, none⟩)] (.panicking (thrown x a)) h (fun u h' => settle u = .returning ∧ PR h' p sv bs pl x a ∧ Fr (fun i => i = p) h h') (fun _ _ _ => False) := by
  haveI : HGet h p _ := ⟨hr.get⟩
  haveI : BLt p h := ⟨hr.lt⟩
  refine zedQ_df ?_
  refine dstp ?_
  exact ⟨rfl, (hr.none Fr.refl.push).turn hr.at_le, Fr.refl.push.set fun _ => rfl⟩
def readQ (h : Heap) (p : Nat) (sv : Value) (bs : List UInt8) (pl : Nat) (zero : Value) (S : Except Int (Value × Nat)) (r : Value) (h' : Heap) : Prop :=
  Fr (fun i => i = p) h h' ∧ match S with
    | .ok (v, pl') => r = v ∧ PR h' p sv bs pl' 0 0
    | .error e => r = zero ∧ ∃ pl', PR h' p sv bs pl' e pl
theorem readsInt_ok {h : Heap} {p : Nat} {sv : Value} {bs : List UInt8} {pl : Nat} {fid : FuncId} {first captured : List Value} {S : Except Int (Value × Nat)} (hr : PR h p sv bs pl 0 0)
    (hm : Runs Tryz.prog T0 (.fn fid) (first ++ [.int .i64 pl] ++ captured) h (fun r h' => ∃ v pl', S = .ok (v, pl') ∧ r = v ∧ PR h' p sv bs pl' 0 0 ∧ Fr (fun i => i = p) h h')
      (fun c h' => ∃ e pl', S = .error e ∧ c = thrown e pl ∧ PR h' p sv bs pl' 0 0 ∧ Fr (fun i => i = p) h h')) :
    Runs Tryz.prog T0 (.fn fn_zvdQ) [.pointer (some ⟨p, 0, none⟩), .func (.func fid) ⟨first⟩ ⟨captured⟩] h (readQ h p sv bs pl (.int .i64 0) S) (fun _ _ => False) := by
  haveI : HGet h p _ := ⟨hr.get⟩
  haveI : BLt p h := ⟨hr.lt⟩
  refine zvdQ_runs ?_
  refine stp ?_
  refine O.callX hm (fun r h1 hr1 => ?_) (fun c h1 hx => ?_)
  · obtain ⟨v, pl', hS, rfl, hp1, hf⟩ := hr1
    refine stp ?_
    refine caught_none.mono (fun u' h' hu => ?_) (fun _ _ _ hx => hx.elim)
    obtain ⟨rfl, rfl⟩ := hu
    refine L.nil ⟨hf, ?_⟩
    rw [hS]
    exact ⟨rfl, hp1⟩
  · obtain ⟨e, pl', hS, rfl, hp1, hf⟩ := hx
    refine stp ?_
    refine (caught_ok hp1).mono (fun u' h' hu => ?_) (fun _ _ _ hx => hx.elim)
    obtain ⟨hs, hp2, hf2⟩ := hu
    rw [hs]
    refine L.nil ⟨hf.trans' hf2, ?_⟩
    rw [hS]
    exact ⟨rfl, pl', hp2⟩
theorem readsInt_bad {h : Heap} {p : Nat} {sv : Value} {bs : List UInt8} {pl : Nat} {e fa : Int} {f : Value} (hr : PR h p sv bs pl e fa) (he : e ≠ 0) :
    Runs Tryz.prog T0 (.fn fn_zvdQ) [.pointer (some ⟨p, 0, none⟩), f] h (fun r h' => r = .int .i64 0 ∧ h' = h) (fun _ _ => False) := by
  haveI : HGet h p _ := ⟨hr.get⟩
  haveI : BLt p h := ⟨hr.lt⟩
  refine zvdQ_runs ?_
  refine stp ?_
  refine C.ifB (fun h1 => ?_) (fun h1 => ?_)
  · refine stp ?_
    exact ⟨rfl, rfl⟩
  · exfalso; simp at h1; exact he h1
theorem Num_ok {h : Heap} {p : Nat} {sv : Value} {bs : List UInt8} {pl : Nat} (hr : PR h p sv bs pl 0 0) :
    Runs Tryz.prog T0 (.fn fn_zzcQ) [.pointer (some ⟨p, 0, none⟩)] h (readQ h p sv bs pl (.int .i64 0) ((numS bs pl).map fun x => (.int .i64 x.1, x.2))) (fun _ _ => False) := by
  refine zzcQ_runs ?_
  refine stp ?_
  refine O.call' (readsInt_ok (S := (numS bs pl).map fun x => (.int .i64 x.1, x.2)) hr ((num_ok hr).mono (fun r h' hq => ?_) (fun c h' hq => ?_))) (fun r h' hq => ?_)
  · obtain ⟨n, pl', h1, h2, h3, h4⟩ := hq
    exact ⟨_, pl', by rw [h1]; rfl, h2, h3, h4⟩
  · obtain ⟨e, pl', h1, h2, h3, h4⟩ := hq
    exact ⟨e, pl', by rw [h1]; rfl, h2, h3, h4⟩
  · refine stp ?_
    exact hq
theorem Num_bad {h : Heap} {p : Nat} {sv : Value} {bs : List UInt8} {pl : Nat} {e fa : Int} (hr : PR h p sv bs pl e fa) (he : e ≠ 0) :
    Runs Tryz.prog T0 (.fn fn_zzcQ) [.pointer (some ⟨p, 0, none⟩)] h (fun r h' => r = .int .i64 0 ∧ h' = h) (fun _ _ => False) := by
  refine zzcQ_runs ?_
  refine stp ?_
  refine O.call' (readsInt_bad hr he) (fun r h' hq => ?_)
  obtain ⟨rfl, rfl⟩ := hq
  refine stp ?_
  exact ⟨rfl, rfl⟩
end Go.Proofs.YtninaabbojcdpaaGreat.A

namespace Go.Proofs.YtninaabbojcdpaaGreat.A
open Go Go.Vm
set_option maxRecDepth 10000
set_option linter.unusedVariables false
theorem End_ok {h : Heap} {p : Nat} {sv : Value} {bs : List UInt8} {pl : Nat} {e fa : Int} (hr : PR h p sv bs pl e fa) :
    Runs Tryz.prog T0 (.fn fn_zscQ) [.pointer (some ⟨p, 0, none⟩)] h
      (fun r h' => r = .agg ⟨if e = 0 ∧ pl < bs.length then [.int .i64 4, .int .i64 pl] else [.int .i64 e, .int .i64 fa]⟩ ∧ Fr (fun _ => False) h h') (fun _ _ => False) := by
  obtain ⟨a, cap, rfl, hlen, _⟩ := hr.own.rd
  haveI : HGet h p _ := ⟨hr.get⟩
  haveI : BLt p h := ⟨hr.lt⟩
  refine zscQ_runs ?_
  refine stp ?_
  refine D.dec (fun he => ?_) (fun he => ?_)
  · refine stp ?_
    refine C.if (fun hlt => ?_) (fun hge => ?_)
    · refine stp ?_
      rw [if_pos ⟨he, by omega⟩]
      exact ⟨rfl, Fr.refl.push⟩
    · refine stp ?_
      rw [if_neg (by omega)]
      exact ⟨rfl, Fr.refl.push⟩
  · refine stp ?_
    rw [if_neg (fun h => he h.1)]
    exact ⟨rfl, Fr.refl.push⟩
end Go.Proofs.YtninaabbojcdpaaGreat.A

namespace Go.Proofs.YtninaabbojcdpaaGreat.A
open Go Go.Vm
set_option maxRecDepth 10000
set_option linter.unusedVariables false
theorem Clone_ok {h : Heap} {v : Value} {l : List UInt8} (hr : Rd h 1 v (bcells l) l.length) (hs : l.length < 1048576) :
    Runs Tryz.prog T0 (.fn fn_zhcQ) [v] h
      (fun r h' => Own h' 1 r (bcells l) l.length ∧ Fr (fun _ => False) h h' ∧ ∀ i, ownedBy r i → h.n ≤ i) (fun _ _ => False) := by
  have hnew := hr.new
  obtain ⟨a, cap, rfl, hlen, hc⟩ := hr
  refine zhcQ_runs ?_
  cases a with
  | none =>
    have hl : l = [] := by
      cases l with
      | nil => rfl
      | cons b l => obtain ⟨_, _, _, h1, _⟩ := hc (by simp); cases h1
    subst hl
    refine stp ?_
    exact ⟨.none, Fr.refl, fun i hi => hi.elim⟩
  | some a =>
    refine stp ?_
    have hz : Own (h.push (.cells [] 0)) 1 (.slice (some ⟨h.n, 0, none⟩) 0 0) [] 0 := .lit (by simp) (by rw [Heap.get_push, if_pos rfl])
    have hnew' := ((Rd.keep (S := fun _ => False) ⟨some a, cap, rfl, hlen, hc⟩ (Fr.refl.push (o := .cells [] 0)) fun _ _ => id).new (size := 1)) [.int .u8 0]
    refine O.append hz hnew' hlen (bcells_one l) (by omega) (by omega) (by omega) (fun v' h' h1 h2 h3 => ?_)
    refine stp ?_
    rw [Nat.zero_add, List.nil_append] at h1
    refine ⟨h1, (Fr.refl.push (o := .cells [] 0)).trans (S := fun _ => False) h2 (fun i hi ho => ?_), fun i hi => ?_⟩
    · have : h.n = i := ho
      omega
    · rcases h3 i hi with h4 | h4
      · have : h.n = i := h4
        omega
      · simp at h4; omega
end Go.Proofs.YtninaabbojcdpaaGreat.A

namespace Go.Proofs.YtninaabbojcdpaaGreat.A
open Go Go.Vm
set_option maxRecDepth 10000
set_option linter.unusedVariables false
theorem numS_err {bs : List UInt8} {pl : Nat} {e : Int} (h : numS bs pl = .error e) : e = 5 ∨ e = 6 := by
  unfold numS at h
  split at h
  · cases h; exact .inr rfl
  · split at h
    · cases h; exact .inl rfl
    · split at h
      · cases h; exact .inr rfl
      · split at h
        · cases h; exact .inl rfl
        · cases h
theorem numS_ok {bs : List UInt8} {pl n pl' : Nat} (h : numS bs pl = .ok (n, pl')) : n ≤ 9223372036854775807 ∧ pl' ≤ bs.length ∧ pl < pl' := by
  unfold numS at h
  split at h
  · cases h
  · split at h
    · cases h
    · split at h
      · cases h
      · split at h
        · cases h
        · cases h
          refine ⟨?_, by omega, by omega⟩
          omega
def bytesS (bs : List UInt8) (most pl : Nat) : Except Int (List UInt8 × Nat) :=
  match numS bs pl with
  | .error e => .error e
  | .ok (n, pl1) => if most < n then .error 4 else if bs.length < pl1 + n then .error 6 else .ok ((bs.drop pl1).take n, pl1 + n)
def partS (k : Nat) (bs : List UInt8) (pl : Nat) : Except Int (List UInt8 × Nat) :=
  if bs.length < pl + k then .error 6 else .ok ((bs.drop pl).take k, pl + k)
structure RSt where
  pl : Nat
  e : Int
  fa : Int
structure PRs (h : Heap) (p : Nat) (sv : Value) (bs : List UInt8) (st : RSt) : Prop where
  ex : ∃ pl, (st.e = 0 → pl = st.pl ∧ st.fa = 0) ∧ PR h p sv bs pl st.e st.fa
def rd {α : Type} (S : Nat → Except Int (α × Nat)) (zero : α) (st : RSt) : α × RSt :=
  if st.e = 0 then match S st.pl with
    | .ok (a, pl) => (a, ⟨pl, 0, 0⟩)
    | .error e => (zero, ⟨0, e, st.pl⟩)
  else (zero, st)
theorem PRs.keep {S : Nat → Prop} {h h' : Heap} {p : Nat} {sv : Value} {bs : List UInt8} {st : RSt} (hp : PRs h p sv bs st) (hf : Fr S h h') (hs : ¬ S p) (hb : ∀ i, ownedBy sv i → ¬ S i) : PRs h' p sv bs st :=
  let ⟨pl, h1, h2⟩ := hp.ex
  ⟨pl, h1, h2.keep hf hs hb⟩
theorem PRs.none {h h' : Heap} {p : Nat} {sv : Value} {bs : List UInt8} {st : RSt} (hp : PRs h p sv bs st) (hf : Fr (fun _ => False) h h') : PRs h' p sv bs st := hp.keep hf id fun _ _ => id
theorem PRs.lt {h : Heap} {p : Nat} {sv : Value} {bs : List UInt8} {st : RSt} (hp : PRs h p sv bs st) : p < h.n := let ⟨_, _, h2⟩ := hp.ex; h2.lt
theorem PRs.small {h : Heap} {p : Nat} {sv : Value} {bs : List UInt8} {st : RSt} (hp : PRs h p sv bs st) : bs.length < 1048576 := let ⟨_, _, h2⟩ := hp.ex; h2.small
theorem PRs.le {h : Heap} {p : Nat} {sv : Value} {bs : List UInt8} {st : RSt} (hp : PRs h p sv bs st) (he : st.e = 0) : st.pl ≤ bs.length := let ⟨_, h1, h2⟩ := hp.ex; (h1 he).1 ▸ h2.at_le
theorem PRs.mk' {h : Heap} {p : Nat} {sv : Value} {bs : List UInt8} {pl : Nat} (hp : PR h p sv bs pl 0 0) : PRs h p sv bs ⟨pl, 0, 0⟩ := ⟨pl, fun _ => ⟨rfl, rfl⟩, hp⟩
def Reads {α : Type} (h : Heap) (p : Nat) (sv : Value) (bs : List UInt8) (x : α × RSt) (V : α → Value → Heap → Prop) (r : Value) (h' : Heap) : Prop :=
  Fr (fun i => i = p) h h' ∧ V x.1 r h' ∧ PRs h' p sv bs x.2
theorem rd_ok {α : Type} {h h' : Heap} {p : Nat} {sv : Value} {bs : List UInt8} {pl pl' : Nat} {S : Nat → Except Int (α × Nat)} {zero a : α} {V : α → Value → Heap → Prop} {r : Value} (hS : S pl = .ok (a, pl')) (hf : Fr (fun i => i = p) h h') (hV : V a r h') (hp : PR h' p sv bs pl' 0 0) :
    Reads h p sv bs (rd S zero ⟨pl, 0, 0⟩) V r h' := by
  unfold rd
  rw [if_pos rfl]
  simp only [hS]
  exact ⟨hf, hV, .mk' hp⟩
theorem rd_err {α : Type} {h h' : Heap} {p : Nat} {sv : Value} {bs : List UInt8} {pl pl' : Nat} {e : Int} {S : Nat → Except Int (α × Nat)} {zero : α} {V : α → Value → Heap → Prop} {r : Value} (hS : S pl = .error e) (he : e ≠ 0) (hf : Fr (fun i => i = p) h h') (hV : V zero r h') (hp : PR h' p sv bs pl' e pl) :
    Reads h p sv bs (rd S zero ⟨pl, 0, 0⟩) V r h' := by
  unfold rd
  rw [if_pos rfl]
  simp only [hS]
  exact ⟨hf, hV, ⟨pl', fun h0 => absurd h0 he, hp⟩⟩
theorem rd_bad {α : Type} {h h' : Heap} {p : Nat} {sv : Value} {bs : List UInt8} {st : RSt} {S : Nat → Except Int (α × Nat)} {zero : α} {V : α → Value → Heap → Prop} {r : Value} (he : st.e ≠ 0) (hf : Fr (fun i => i = p) h h') (hV : V zero r h') (hp : PRs h' p sv bs st) :
    Reads h p sv bs (rd S zero st) V r h' := by
  unfold rd
  rw [if_neg he]
  exact ⟨hf, hV, hp⟩
theorem Num_run {h : Heap} {p : Nat} {sv : Value} {bs : List UInt8} {st : RSt} (hp : PRs h p sv bs st) :
    Runs Tryz.prog T0 (.fn fn_zzcQ) [.pointer (some ⟨p, 0, none⟩)] h (Reads h p sv bs (rd (numS bs) 0 st) fun a r _ => r = .int .i64 (a : Nat)) (fun _ _ => False) := by
  obtain ⟨st1, e, fa⟩ := st
  obtain ⟨pl, h1, h2⟩ := hp.ex
  by_cases he : e = 0
  · subst he
    obtain ⟨rfl, h3⟩ := h1 rfl
    have h3 : fa = 0 := h3
    subst h3
    refine (Num_ok h2).imp fun r h' ⟨hf, hq⟩ => ?_
    cases hS : numS bs pl with
    | ok x =>
      rw [hS] at hq
      exact rd_ok hS hf hq.1 hq.2
    | error e =>
      rw [hS] at hq
      obtain ⟨hz, pl', hp'⟩ := hq
      exact rd_err hS (by rcases numS_err hS with rfl | rfl <;> omega) hf hz hp'
  · refine (Num_bad h2 he).imp fun r h' ⟨hz, hh⟩ => ?_
    subst hh
    exact rd_bad he Fr.refl hz hp
end Go.Proofs.YtninaabbojcdpaaGreat.A

namespace Go.Proofs.YtninaabbojcdpaaGreat.A
open Go Go.Vm
set_option maxRecDepth 10000
set_option linter.unusedVariables false
theorem NewReader_ok {h : Heap} {v : Value} {l : List UInt8} (hr : Rd h 1 v (bcells l) l.length) (hs : l.length < 1048576) :
    Runs Tryz.prog T0 (.fn fn_zocQ) [v] h (fun r h' => ∃ p sv, r = .pointer (some ⟨p, 0, none⟩) ∧ h.n ≤ p ∧ (∀ i, ownedBy sv i → h.n ≤ i) ∧ PRs h' p sv l ⟨0, 0, 0⟩ ∧ Fr (fun _ => False) h h') (fun _ _ => False) := by
  refine zocQ_runs ?_
  refine stp ?_
  refine O.call' (Clone_ok hr hs) (fun r h1 hq => ?_)
  obtain ⟨ho, hf, hnew⟩ := hq
  obtain ⟨a, cap, rfl, hlen, _⟩ := ho.rd
  have hn := hf.n
  refine stp ?_
  refine ⟨h1.n, _, rfl, hn, hnew, .mk' ⟨by omega, hs, by simp, by rw [Heap.get_push, if_pos rfl]; rfl, ho.keep (S := fun _ => False) Fr.refl.push fun _ _ => id, fun hi => ?_⟩, hf.push⟩
  have := ho.lt hi
  omega
def endS (bs : List UInt8) (st : RSt) : Int × Int := if st.e = 0 ∧ st.pl < bs.length then (4, st.pl) else (st.e, st.fa)
theorem End_run {h : Heap} {p : Nat} {sv : Value} {bs : List UInt8} {st : RSt} (hp : PRs h p sv bs st) :
    Runs Tryz.prog T0 (.fn fn_zscQ) [.pointer (some ⟨p, 0, none⟩)] h (fun r h' => r = .agg ⟨[.int .i64 (endS bs st).1, .int .i64 (endS bs st).2]⟩ ∧ Fr (fun _ => False) h h') (fun _ _ => False) := by
  obtain ⟨pl, h1, h2⟩ := hp.ex
  refine (End_ok h2).imp fun r h' ⟨hr, hf⟩ => ⟨?_, hf⟩
  rw [hr]
  unfold endS
  by_cases he : st.e = 0
  · rw [(h1 he).1]
    split <;> rfl
  · rw [if_neg (fun h => he h.1), if_neg (fun h => he h.1)]
end Go.Proofs.YtninaabbojcdpaaGreat.A

namespace Go.Proofs.YtninaabbojcdpaaGreat.A
open Go Go.Vm
set_option maxRecDepth 10000
set_option linter.unusedVariables false
theorem takeB_ok {h : Heap} {p : Nat} {sv : Value} {bs : List UInt8} {pl n : Nat} {fa a0 : Int} (hr : PR h p sv bs pl 0 fa) (hn : n < 1048576) :
    Runs Tryz.prog T0 (.fn fn_zxdQ) [.pointer (some ⟨p, 0, none⟩), .int .i64 n, .int .i64 a0, .func (.func fn_zhcQ) ⟨[]⟩ ⟨[]⟩] h
      (fun r h' => pl + n ≤ bs.length ∧ Own h' 1 r (bcells ((bs.drop pl).take n)) n ∧ (∀ i, ownedBy r i → h.n ≤ i) ∧ PR h' p sv bs (pl + n) 0 fa ∧ Fr (fun i => i = p) h h') (fun c h' => bs.length < pl + n ∧ c = thrown 6 a0 ∧ h' = h) := by
  have hr' := hr
  obtain ⟨hle, hsm, hp, hget, hown, hnot⟩ := hr
  obtain ⟨a, cap, rfl, hlen, _⟩ := hown.rd
  haveI : HGet h p _ := ⟨hget⟩
  refine zxdQ_runs ?_
  refine stp ?_
  refine D.callX must_ok (fun v h' hv => rfl) (fun v h' hv => ?_) (fun c h' hx => ⟨rfl, ?_⟩)
  · obtain ⟨hle2, rfl⟩ := hv
    have hle2 : (n : Int) ≤ bs.length - pl := of_decide_eq_true hle2
    refine stp ?_
    have hp2 := hr'.turn (pl' := pl + n) (e' := 0) (fa' := fa) (by omega)
    refine D.slice pl (pl + n) (by omega) hp2.own (by omega) (by omega) (by omega) (by omega) (fun v' hbl hrd => ?_)
    rw [Nat.mul_one, Nat.mul_one, bcells_drop, bcells_take, Nat.add_sub_cancel_left] at hrd
    have hl : ((bs.drop pl).take n).length = n := by rw [List.length_take, List.length_drop]; omega
    refine D.callX (Clone_ok (l := (bs.drop pl).take n) (by rw [hl]; exact hrd) (by omega)) (fun _ _ _ => rfl) (fun r h2 hr => ?_) (fun _ _ hx => hx.elim)
    obtain ⟨ho, hf, hnew⟩ := hr
    refine stp ?_
    rw [hl] at ho
    refine ⟨by omega, ho, fun i hi => ?_, hp2.none hf, Fr.trans (S := fun i => i = p) (S' := fun _ => False) (Fr.refl.set fun _ => rfl) hf fun _ _ h => h.elim⟩
    have := hnew i hi
    simpa using this
  · obtain ⟨hlt, rfl, rfl⟩ := hx
    have hlt : ¬ (n : Int) ≤ bs.length - pl := of_decide_eq_false hlt
    refine stp ?_
    exact ⟨by omega, rfl, rfl⟩
theorem Bytes1_ok {h : Heap} {p a b : Nat} {sv : Value} {bs : List UInt8} {pl most : Nat} (hr : PR h p sv bs pl 0 0) (hm : most < 1048576) [ha : HGet h a (.cells [.pointer (some ⟨p, 0, none⟩)] 0)] [hb : HGet h b (.cells [.int .i64 most] 0)] (ha' : a < h.n) (hb' : b < h.n) (hap : a ≠ p) (hbp : b ≠ p) :
    Runs Tryz.prog T0 (.fn fn_zrcQ) [.int .i64 pl, .pointer (some ⟨a, 0, none⟩), .pointer (some ⟨b, 0, none⟩)] h
      (fun r h' => ∃ l pl', bytesS bs most pl = .ok (l, pl') ∧ (Own h' 1 r (bcells l) l.length ∧ (∀ i, ownedBy r i → h.n ≤ i)) ∧ PR h' p sv bs pl' 0 0 ∧ Fr (fun i => i = p) h h')
      (fun c h' => ∃ e pl', bytesS bs most pl = .error e ∧ e ≠ 0 ∧ c = thrown e pl ∧ PR h' p sv bs pl' 0 0 ∧ Fr (fun i => i = p) h h') := by
  refine zrcQ_runs ?_
  refine stp ?_
  refine O.callX (num_ok hr) (fun r h1 hr1 => ?_) (fun c h1 hx => ?_)
  · obtain ⟨n, pl1, hS, rfl, hp1, hf1⟩ := hr1
    obtain ⟨hn1, hn2, hn3⟩ := numS_ok hS
    haveI := hf1.keep ha ha' hap
    haveI := hf1.keep hb hb' hbp
    refine stp ?_
    refine O.callX must_ok (fun r h2 hr2 => ?_) (fun c h2 hx => ?_)
    · obtain ⟨hle, rfl⟩ := hr2
      have hle := of_decide_eq_true hle
      have hle : n ≤ most := by split at hle <;> omega
      refine stp ?_
      refine O.callX (takeB_ok (n := n) hp1 (by omega)) (fun r h3 hr3 => ?_) (fun c h3 hx => ?_)
      · obtain ⟨hle3, ho, hnew, hp3, hf3⟩ := hr3
        refine stp ?_
        have hl : ((bs.drop pl1).take n).length = n := by rw [List.length_take, List.length_drop]; omega
        refine ⟨_, _, ?_, ⟨by rw [hl]; exact ho, fun i hi => Nat.le_trans hf1.n (hnew i hi)⟩, hp3, hf1.trans' hf3⟩
        unfold bytesS
        rw [hS]
        simp only
        rw [if_neg (by omega), if_neg (by omega)]
      · obtain ⟨hlt, rfl, rfl⟩ := hx
        refine stp ?_
        refine ⟨6, pl1, ?_, by omega, rfl, hp1, hf1⟩
        unfold bytesS
        rw [hS]
        simp only
        rw [if_neg (by omega), if_pos (by omega)]
    · obtain ⟨hle, rfl, rfl⟩ := hx
      have hle := of_decide_eq_false hle
      have hle : most < n := by split at hle <;> omega
      refine stp ?_
      refine ⟨4, pl1, ?_, by omega, rfl, hp1, hf1⟩
      unfold bytesS
      rw [hS]
      simp only
      rw [if_pos hle]
  · obtain ⟨e, pl1, hS, rfl, hp1, hf1⟩ := hx
    refine stp ?_
    refine ⟨e, pl1, ?_, ?_, rfl, hp1, hf1⟩
    · unfold bytesS; rw [hS]
    · rcases numS_err hS with rfl | rfl <;> omega
theorem readsB_ok {h : Heap} {p : Nat} {sv : Value} {bs : List UInt8} {pl : Nat} {fid : FuncId} {first captured : List Value} {S : Nat → Except Int (List UInt8 × Nat)} (hr : PR h p sv bs pl 0 0)
    (hm : Runs Tryz.prog T0 (.fn fid) (first ++ [.int .i64 pl] ++ captured) h (fun r h' => ∃ l pl', S pl = .ok (l, pl') ∧ (Own h' 1 r (bcells l) l.length ∧ (∀ i, ownedBy r i → h.n ≤ i)) ∧ PR h' p sv bs pl' 0 0 ∧ Fr (fun i => i = p) h h')
      (fun c h' => ∃ e pl', S pl = .error e ∧ e ≠ 0 ∧ c = thrown e pl ∧ PR h' p sv bs pl' 0 0 ∧ Fr (fun i => i = p) h h')) :
    Runs Tryz.prog T0 (.fn fn_zsdQ) [.pointer (some ⟨p, 0, none⟩), .func (.func fid) ⟨first⟩ ⟨captured⟩] h (Reads h p sv bs (rd S [] ⟨pl, 0, 0⟩) fun l r h' => Own h' 1 r (bcells l) l.length ∧ (∀ i, ownedBy r i → h.n ≤ i)) (fun _ _ => False) := by
  haveI : HGet h p _ := ⟨hr.get⟩
  haveI : BLt p h := ⟨hr.lt⟩
  refine zsdQ_runs ?_
  refine stp ?_
  refine O.callX hm (fun r h1 hr1 => ?_) (fun c h1 hx => ?_)
  · obtain ⟨v, pl', hS, ho, hp1, hf⟩ := hr1
    refine stp ?_
    refine caught_none.mono (fun u' h' hu => ?_) (fun _ _ _ hx => hx.elim)
    obtain ⟨rfl, rfl⟩ := hu
    exact L.nil (rd_ok hS hf ho hp1)
  · obtain ⟨e, pl', hS, he, rfl, hp1, hf⟩ := hx
    refine stp ?_
    refine (caught_ok hp1).mono (fun u' h' hu => ?_) (fun _ _ _ hx => hx.elim)
    obtain ⟨hs, hp2, hf2⟩ := hu
    rw [hs]
    exact L.nil (rd_err hS he (hf.trans' hf2) ⟨.none, fun i hi => hi.elim⟩ hp2)
theorem readsB_bad {h : Heap} {p : Nat} {sv : Value} {bs : List UInt8} {pl : Nat} {e fa : Int} {f : Value} (hr : PR h p sv bs pl e fa) (he : e ≠ 0) :
    Runs Tryz.prog T0 (.fn fn_zsdQ) [.pointer (some ⟨p, 0, none⟩), f] h (fun r h' => r = .slice none 0 0 ∧ h' = h) (fun _ _ => False) := by
  haveI : HGet h p _ := ⟨hr.get⟩
  haveI : BLt p h := ⟨hr.lt⟩
  refine zsdQ_runs ?_
  refine stp ?_
  refine C.ifB (fun h1 => ?_) (fun h1 => ?_)
  · refine stp ?_
    exact ⟨rfl, rfl⟩
  · exfalso; simp at h1; exact he h1
theorem Bytes_run {h : Heap} {p : Nat} {sv : Value} {bs : List UInt8} {st : RSt} {most : Nat} (hp : PRs h p sv bs st) (hm : most < 1048576) :
    Runs Tryz.prog T0 (.fn fn_zqcQ) [.pointer (some ⟨p, 0, none⟩), .int .i64 most] h (Reads h p sv bs (rd (bytesS bs most) [] st) fun l r h' => Own h' 1 r (bcells l) l.length ∧ (∀ i, ownedBy r i → h.n ≤ i)) (fun _ _ => False) := by
  obtain ⟨st1, e, fa⟩ := st
  obtain ⟨pl, h1, h2⟩ := hp.ex
  have hlt := h2.lt
  refine zqcQ_runs ?_
  refine stp ?_
  have hf0 : Fr (fun i => i = p) h ((h.push (AObj.cells [Value.pointer (some ⟨p, 0, none⟩)] 0)).push (AObj.cells [Value.int .i64 most] 0)) := Fr.refl.push.push
  by_cases he : e = 0
  · subst he
    obtain ⟨rfl, h3⟩ := h1 rfl
    have h3 : fa = 0 := h3
    subst h3
    refine O.call' (readsB_ok (S := bytesS bs most) (h2.none Fr.refl.push.push) (Bytes1_ok (most := most) (h2.none Fr.refl.push.push) hm (by simp; omega) (by simp) (by omega) (by simp; omega))) (fun r h' hq => ?_)
    refine stp ?_
    exact ⟨hf0.trans' hq.1, ⟨hq.2.1.1, fun i hi => by have := hq.2.1.2 i hi; simp at this; omega⟩, hq.2.2⟩
  · refine O.call' (readsB_bad (h2.none Fr.refl.push.push) he) (fun r h' hq => ?_)
    obtain ⟨rfl, rfl⟩ := hq
    refine stp ?_
    exact rd_bad he hf0 ⟨.none, fun i hi => hi.elim⟩ (hp.none Fr.refl.push.push)
theorem Text_run {h : Heap} {p : Nat} {sv : Value} {bs : List UInt8} {st : RSt} {most : Nat} (hp : PRs h p sv bs st) (hm : most < 1048576) :
    Runs Tryz.prog T0 (.fn fn_zbdQ) [.pointer (some ⟨p, 0, none⟩), .int .i64 most] h (Reads h p sv bs (rd (bytesS bs most) [] st) fun l r h' => r = .string ⟨⟨l⟩⟩) (fun _ _ => False) := by
  refine zbdQ_runs ?_
  refine stp ?_
  refine O.call' (Bytes_run hp hm) (fun r h' hq => ?_)
  obtain ⟨hf, ho, hp'⟩ := hq
  refine O.how (XOp.mkStr ho.1.rd) ?_
  refine stp ?_
  exact ⟨hf, rfl, hp'⟩
end Go.Proofs.YtninaabbojcdpaaGreat.A

namespace Go.Proofs.YtninaabbojcdpaaGreat.A
open Go Go.Vm
set_option maxRecDepth 10000
set_option linter.unusedVariables false
theorem l32 {l : List UInt8} (h : l.length = 32) : L32 (bcells l) := ⟨by simpa [bcells] using h⟩
theorem Hash11_ok {h : Heap} {v : Value} {l : List UInt8} (hr : Rd h 1 v (bcells l) l.length) (hl : l.length = 32) :
    Runs Tryz.prog T0 (.fn fn_zvcQ) [v] h (fun r h' => r = .agg ⟨bcells l⟩ ∧ Fr (fun _ => False) h h') (fun _ _ => False) := by
  obtain ⟨a, cap, rfl, hlen, hc⟩ := hr
  obtain ⟨b, o, sp, rfl, hb, hcc⟩ := hc (by omega)
  rw [Nat.mul_one, hl] at hcc
  haveI := l32 hl
  refine zvcQ_runs ?_
  refine stp ?_
  refine O.how (XOp.mkArrayAt (by omega)) ?_
  haveI : Cells (h.push (.cells z32 0)) b o 32 (bcells l) := ⟨by rw [cellsAt_keep (S := fun _ => False) Fr.refl.push hb id]; exact hcc⟩
  refine stp ?_
  exact ⟨rfl, Fr.refl.push⟩
theorem takeH_ok {h : Heap} {p : Nat} {sv : Value} {bs : List UInt8} {pl : Nat} {fa a0 : Int} (hr : PR h p sv bs pl 0 fa) :
    Runs Tryz.prog T0 (.fn fn_zydQ) [.pointer (some ⟨p, 0, none⟩), .int .i64 32, .int .i64 a0, .func (.func fn_zvcQ) ⟨[]⟩ ⟨[]⟩] h
      (fun r h' => pl + 32 ≤ bs.length ∧ r = .agg ⟨bcells ((bs.drop pl).take 32)⟩ ∧ PR h' p sv bs (pl + 32) 0 fa ∧ Fr (fun i => i = p) h h')
      (fun c h' => bs.length < pl + 32 ∧ c = thrown 6 a0 ∧ PR h' p sv bs pl 0 fa ∧ Fr (fun i => i = p) h h') := by
  have hr' := hr.none (Fr.refl.push (o := .cells z32 0))
  have hr0 := hr
  obtain ⟨hle, hsm, hp, hget, hown, hnot⟩ := hr
  obtain ⟨a, cap, rfl, hlen, _⟩ := hown.rd
  haveI : HGet h p _ := ⟨hget⟩
  haveI : BLt p h := ⟨hp⟩
  refine zydQ_runs ?_
  refine stp ?_
  refine D.callX must_ok (fun v h' hv => rfl) (fun v h' hv => ?_) (fun c h' hx => ⟨rfl, ?_⟩)
  · obtain ⟨hle2, rfl⟩ := hv
    have hle2 := of_decide_eq_true hle2
    refine stp ?_
    have hp2 := hr'.turn (pl' := pl + 32) (e' := 0) (fa' := fa) (by omega)
    refine D.slice pl (pl + 32) (by omega) hp2.own (by omega) (by omega) (by omega) (by omega) (fun v' hbl hrd => ?_)
    rw [Nat.mul_one, Nat.mul_one, bcells_drop, bcells_take, Nat.add_sub_cancel_left] at hrd
    have hl : ((bs.drop pl).take 32).length = 32 := by rw [List.length_take, List.length_drop]; omega
    have hf0 : Fr (fun i => i = p) h ((h.push (.cells z32 0)).set p (.cells [.slice a bs.length cap, .int .i64 ↑(pl + 32), .int .i64 0, .int .i64 fa, .bool true] 0)) := Fr.refl.push.set fun _ => rfl
    refine D.callX (Hash11_ok (l := (bs.drop pl).take 32) (by rw [hl]; exact hrd) hl) (fun _ _ _ => rfl) (fun r h2 hr => ?_) (fun _ _ hx => hx.elim)
    obtain ⟨rfl, hf⟩ := hr
    haveI := l32 hl
    haveI : HGet h2 h.n _ := hf.keep (b := h.n) (HGet.set (k := ⟨by omega⟩) (g := HGet.new)) (by simp) id
    refine stp ?_
    refine ⟨by omega, rfl, (hp2.none hf).keep (S := fun i => i = h.n) (Fr.refl.set fun _ => rfl) (by omega) fun i hi hn => ?_, ?_⟩
    · have := hown.lt hi
      omega
    · refine Fr.set (Fr.trans (S := fun i => i = p) (S' := fun _ => False) hf0 hf fun _ _ h => h.elim) fun hlt => ?_
      omega
  · obtain ⟨hlt, rfl, rfl⟩ := hx
    have hlt := of_decide_eq_false hlt
    refine stp ?_
    exact ⟨by omega, rfl, hr', Fr.refl.push⟩
theorem Hash1_ok {h : Heap} {p a : Nat} {sv : Value} {bs : List UInt8} {pl : Nat} (hr : PR h p sv bs pl 0 0) [ha : HGet h a (.cells [.pointer (some ⟨p, 0, none⟩)] 0)] (ha' : a < h.n) :
    Runs Tryz.prog T0 (.fn fn_zucQ) [.int .i64 pl, .pointer (some ⟨a, 0, none⟩)] h
      (fun r h' => ∃ l pl', partS 32 bs pl = .ok (l, pl') ∧ (r = .agg ⟨bcells l⟩ ∧ l.length = 32) ∧ PR h' p sv bs pl' 0 0 ∧ Fr (fun i => i = p) h h')
      (fun c h' => ∃ e pl', partS 32 bs pl = .error e ∧ e ≠ 0 ∧ c = thrown e pl ∧ PR h' p sv bs pl' 0 0 ∧ Fr (fun i => i = p) h h') := by
  have hp := hr.lt
  have hr' := hr.none (Fr.refl.push (o := .cells z32 0))
  haveI : BLt a h := ⟨ha'⟩
  refine zucQ_runs ?_
  refine stp ?_
  refine O.callX (takeH_ok hr') (fun r h1 hr1 => ?_) (fun c h1 hx => ?_)
  · obtain ⟨hle, rfl, hp1, hf1⟩ := hr1
    have hl : ((bs.drop pl).take 32).length = 32 := by rw [List.length_take, List.length_drop]; omega
    haveI := l32 hl
    haveI : HGet h1 h.n _ := hf1.keep (b := h.n) HGet.new (by simp) (by omega)
    refine stp ?_
    refine ⟨_, pl + 32, by unfold partS; rw [if_neg (by omega)], ⟨rfl, hl⟩, hp1.keep (S := fun i => i = h.n) (Fr.refl.set fun _ => rfl) (by omega) fun i hi hn => ?_, ?_⟩
    · have := hr.own.lt hi
      omega
    · exact Fr.set (Fr.trans (S := fun i => i = p) Fr.refl.push hf1 fun _ _ h => h) fun hlt => by omega
  · obtain ⟨hlt, rfl, hp1, hf1⟩ := hx
    refine stp ?_
    exact ⟨6, pl, by unfold partS; rw [if_pos (by omega)], by omega, rfl, hp1, Fr.trans (S := fun i => i = p) Fr.refl.push hf1 fun _ _ h => h⟩
theorem readsH_ok {h : Heap} {p : Nat} {sv : Value} {bs : List UInt8} {pl : Nat} {fid : FuncId} {first captured : List Value} {S : Nat → Except Int (List UInt8 × Nat)} (hr : PR h p sv bs pl 0 0)
    (hm : Runs Tryz.prog T0 (.fn fid) (first ++ [.int .i64 pl] ++ captured) (h.push (.cells z32 0)) (fun r h' => ∃ l pl', S pl = .ok (l, pl') ∧ (r = .agg ⟨bcells l⟩ ∧ l.length = 32) ∧ PR h' p sv bs pl' 0 0 ∧ Fr (fun i => i = p) (h.push (.cells z32 0)) h')
      (fun c h' => ∃ e pl', S pl = .error e ∧ e ≠ 0 ∧ c = thrown e pl ∧ PR h' p sv bs pl' 0 0 ∧ Fr (fun i => i = p) (h.push (.cells z32 0)) h')) :
    Runs Tryz.prog T0 (.fn fn_ztdQ) [.pointer (some ⟨p, 0, none⟩), .func (.func fid) ⟨first⟩ ⟨captured⟩] h (Reads h p sv bs (rd S zb32 ⟨pl, 0, 0⟩) fun l r h' => r = .agg ⟨bcells l⟩ ∧ l.length = 32) (fun _ _ => False) := by
  haveI : HGet h p _ := ⟨hr.get⟩
  haveI : BLt p h := ⟨hr.lt⟩
  have hp := hr.lt
  refine ztdQ_runs ?_
  refine stp ?_
  refine O.callX hm (fun r h1 hr1 => ?_) (fun c h1 hx => ?_)
  · obtain ⟨l, pl', hS, ⟨rfl, hl⟩, hp1, hf⟩ := hr1
    haveI := l32 hl
    haveI : HGet h1 h.n _ := hf.keep (b := h.n) HGet.new (by simp) (by omega)
    refine stp ?_
    refine caught_none.mono (fun u' h' hu => ?_) (fun _ _ _ hx => hx.elim)
    obtain ⟨rfl, rfl⟩ := hu
    refine L.nil (rd_ok hS ?_ ⟨rfl, hl⟩ (hp1.keep (S := fun i => i = h.n) (Fr.refl.set fun _ => rfl) (by omega) fun i hi hn => ?_))
    · exact Fr.set (Fr.trans (S := fun i => i = p) Fr.refl.push hf fun _ _ h => h) fun hlt => by omega
    · have := hr.own.lt hi
      omega
  · obtain ⟨e, pl', hS, he, rfl, hp1, hf⟩ := hx
    refine stp ?_
    refine (caught_ok hp1).mono (fun u' h' hu => ?_) (fun _ _ _ hx => hx.elim)
    obtain ⟨hs, hp2, hf2⟩ := hu
    rw [hs]
    haveI : HGet h' h.n _ := (hf.trans' hf2).keep (b := h.n) HGet.new (by simp) (by omega)
    exact L.nil (rd_err hS he (Fr.trans (S := fun i => i = p) Fr.refl.push (hf.trans' hf2) fun _ _ h => h) ⟨rfl, rfl⟩ hp2)
theorem readsH_bad {h : Heap} {p : Nat} {sv : Value} {bs : List UInt8} {pl : Nat} {e fa : Int} {f : Value} (hr : PR h p sv bs pl e fa) (he : e ≠ 0) :
    Runs Tryz.prog T0 (.fn fn_ztdQ) [.pointer (some ⟨p, 0, none⟩), f] h (fun r h' => r = .agg ⟨z32⟩ ∧ Fr (fun _ => False) h h') (fun _ _ => False) := by
  haveI : HGet h p _ := ⟨hr.get⟩
  haveI : BLt p h := ⟨hr.lt⟩
  refine ztdQ_runs ?_
  refine stp ?_
  refine C.ifB (fun h1 => ?_) (fun h1 => ?_)
  · refine stp ?_
    exact ⟨rfl, Fr.refl.push⟩
  · exfalso; simp at h1; exact he h1
theorem Hash_run {h : Heap} {p : Nat} {sv : Value} {bs : List UInt8} {st : RSt} (hp : PRs h p sv bs st) :
    Runs Tryz.prog T0 (.fn fn_ztcQ) [.pointer (some ⟨p, 0, none⟩)] h (Reads h p sv bs (rd (partS 32 bs) zb32 st) fun l r _ => r = .agg ⟨bcells l⟩ ∧ l.length = 32) (fun _ _ => False) := by
  obtain ⟨st1, e, fa⟩ := st
  obtain ⟨pl, h1, h2⟩ := hp.ex
  have hlt := h2.lt
  refine ztcQ_runs ?_
  refine stp ?_
  have hf0 : Fr (fun i => i = p) h ((h.push (AObj.cells [Value.pointer (some ⟨p, 0, none⟩)] 0)).push (AObj.cells z32 0)) := Fr.refl.push.push
  by_cases he : e = 0
  · subst he
    obtain ⟨rfl, h3⟩ := h1 rfl
    have h3 : fa = 0 := h3
    subst h3
    refine O.call' (readsH_ok (S := partS 32 bs) (h2.none Fr.refl.push.push) (Hash1_ok (h2.none Fr.refl.push.push.push) (by simp; omega))) (fun r h' hq => ?_)
    obtain ⟨hf, ⟨rfl, hl⟩, hp'⟩ := hq
    haveI := l32 hl
    haveI : HGet h' (h.push (AObj.cells [Value.pointer (some ⟨p, 0, none⟩)] 0)).n _ := hf.keep (b := (h.push (AObj.cells [Value.pointer (some ⟨p, 0, none⟩)] 0)).n) HGet.new (by simp) (by simp; omega)
    refine stp ?_
    refine ⟨Fr.set (hf0.trans' hf) fun hlt => by simp at hlt; omega, ⟨rfl, hl⟩, hp'.keep (S := fun i => i = (h.push (AObj.cells [Value.pointer (some ⟨p, 0, none⟩)] 0)).n) (Fr.refl.set fun _ => rfl) (by simp; omega) fun i hi hn => ?_⟩
    have := h2.own.lt hi
    simp at hn; omega
  · refine O.call' (readsH_bad (h2.none Fr.refl.push.push) he) (fun r h' hq => ?_)
    obtain ⟨rfl, hf⟩ := hq
    haveI : HGet h' (h.push (AObj.cells [Value.pointer (some ⟨p, 0, none⟩)] 0)).n _ := hf.keep (b := (h.push (AObj.cells [Value.pointer (some ⟨p, 0, none⟩)] 0)).n) HGet.new (by simp) id
    refine stp ?_
    refine rd_bad he (Fr.set (hf0.trans' (hf.mono fun _ _ h => h.elim)) fun hlt => by simp at hlt; omega) ⟨rfl, rfl⟩ (((hp.none Fr.refl.push.push).none hf).keep (S := fun i => i = (h.push (AObj.cells [Value.pointer (some ⟨p, 0, none⟩)] 0)).n) (Fr.refl.set fun _ => rfl) (by simp; omega) fun i hi hn => ?_)
    have := h2.own.lt hi
    simp at hn; omega
end Go.Proofs.YtninaabbojcdpaaGreat.A

namespace Go.Proofs.YtninaabbojcdpaaGreat.A
open Go Go.Vm
set_option maxRecDepth 10000
set_option linter.unusedVariables false
def beN (n : Nat) : List UInt8 := if h : n = 0 then [] else beN (n / 256) ++ [UInt8.ofNat (n % 256)]
  termination_by n
  decreasing_by omega
theorem beN_zero : beN 0 = [] := by unfold beN; simp
theorem beN_pos {n : Nat} (h : n ≠ 0) : beN n = beN (n / 256) ++ [UInt8.ofNat (n % 256)] := by rw [beN]; rw [dif_neg h]
def numF (n : Nat) : List UInt8 := UInt8.ofNat (beN n).length :: beN n
theorem beN_len : ∀ (k n : Nat), n < 256 ^ k → (beN n).length ≤ k
  | 0, n, h => by
    obtain rfl : n = 0 := by simpa using h
    rw [beN_zero]; simp
  | k + 1, n, h => by
    by_cases h0 : n = 0
    · subst h0; rw [beN_zero]; simp
    · rw [beN_pos h0, List.length_append]
      have : n / 256 < 256 ^ k := Nat.div_lt_of_lt_mul (by rw [Nat.pow_succ] at h; omega)
      have := beN_len k _ this
      simp; omega
theorem u8nat {n : Nat} (h : n < 256) : (UInt8.ofNat n).toNat = n := by
  rw [UInt8.toNat_ofNat']
  exact Nat.mod_eq_of_lt h
theorem number_ok {h : Heap} {N : Nat} (hN : N ≤ 9223372036854775807) :
    Runs Tryz.prog T0 (.fn fn_zrdQ) [.int .i64 N] h (fun r h' => Rd h' 1 r (bcells (numF N)) (numF N).length ∧ (∀ i, blockOf r i → h.n ≤ i) ∧ Fr (fun _ => False) h h') (fun _ _ => False) := by
  refine zrdQ_runs ?_
  refine stp ?_
  refine zrdQ_l0_rule (fun m v0 v4 h' => ∃ (n k : Nat) (c : List Value) (ds : List UInt8), n = m ∧ v0 = .int .i64 n ∧ v4 = .int .i64 k ∧ k ≤ 8 ∧ n < 256 ^ (8 - k) ∧ n ≤ N ∧ h' = h.push (.cells c 0) ∧ c.length = 9 ∧ ds.length = k ∧ c.drop (9 - k) = bcells ds ∧ beN N = beN n ++ ds) ?_ N
    ⟨N, 0, _, [], rfl, rfl, rfl, by omega, by simp; omega, Nat.le_refl _, rfl, rfl, rfl, rfl, by simp⟩
  rintro m v0 v4 h' x5 x6 x7 x8 x9 x10 x11 x12 x13 x14 x15 ⟨n, k, c, ds, hnm, rfl, rfl, hk, hn, hnN, rfl, hc, hds, hd, hbe⟩
  subst hnm
  refine stp ?_
  refine C.if (fun hpos => ?_) (fun hz => ?_)
  · have hk8 : k < 8 := by
      rcases Nat.lt_or_ge k 8 with h | h
      · exact h
      · obtain rfl : k = 8 := by omega
        simp at hn; omega
    have h256 : n % 256 < 256 := Nat.mod_lt _ (by omega)
    have hw : (IntKind.wrap .u8 (n : Int)) = (((UInt8.ofNat (n % 256)).toNat : Nat) : Int) := by
      rw [wrap_u8, u8nat h256]
      omega
    refine stp ?_
    have h8 : ((8 : Int) - (k : Int)).toNat = 8 - k := by omega
    rw [hw, h8]
    simp only [Nat.zero_add, Nat.mul_one]
    refine O.by0 (XOp.mkStore1 (P := Tryz.prog) (h := h.push (.cells c 0)) (c := c) (r := h.n) (o := 8 - k) (v := .int .u8 (UInt8.ofNat (n % 256)).toNat) (sp := none) (by omega)).eq rfl ?_
    refine stp ?_
    refine O.how XOp.shr8 ?_
    refine stp ?_
    have hdiv : ((n : Int) / 256) = ((n / 256 : Nat) : Int) := by omega
    rw [hdiv, Heap.push_set]
    refine zrdQ_l0_again (n / 256) (by omega) ⟨n / 256, k + 1, lset c (8 - k) (.int .u8 (UInt8.ofNat (n % 256)).toNat), UInt8.ofNat (n % 256) :: ds, rfl, rfl, by simp, by omega, ?_, by omega, rfl, by rw [lset_len]; exact hc, by simp [hds], ?_, ?_⟩
    · have : 256 ^ (8 - k) = 256 ^ (8 - (k + 1)) * 256 := by rw [← Nat.pow_succ]; congr 1; omega
      exact Nat.div_lt_of_lt_mul (by omega)
    · rw [show 9 - (k + 1) = 8 - k from by omega, lset_drop _ _ _ (by omega), show 8 - k + 1 = 9 - k from by omega, hd]
      rfl
    · rw [hbe, beN_pos (by omega)]
      simp
  · have hn0 : n = 0 := by omega
    subst hn0
    rw [beN_zero, List.nil_append] at hbe
    have hw : (k : Int) = (((UInt8.ofNat k).toNat : Nat) : Int) := by
      rw [u8nat (by omega)]
    refine stp ?_
    have h8 : ((8 : Int) - (k : Int)).toNat = 8 - k := by omega
    rw [h8]
    simp only [Nat.zero_add, Nat.mul_one]
    refine O.by0 (XOp.mkStore1 (P := Tryz.prog) (h := h.push (.cells c 0)) (c := c) (r := h.n) (o := 8 - k) (v := .int .u8 k) (sp := none) (by omega)).eq rfl ?_
    refine stp ?_
    rw [Heap.push_set]
    refine O.how (XOp.mkSliceArrLo (8 - k) (by omega) (by omega)) ?_
    refine stp ?_
    rw [show 9 - (8 - k) = k + 1 from by omega, Nat.zero_add, Nat.mul_one]
    have hlen : (numF N).length = k + 1 := by simp [numF, hbe, hds]
    refine ⟨?_, fun i hi => by rw [← hi.1]; exact Nat.le_refl _, Fr.refl.push⟩
    rw [hlen]
    refine Rd.mk (by simp) ?_
    rw [cellsAt_of (c := lset c (8 - k) (.int .u8 k)) (by rw [Heap.get_push, if_pos rfl]; rfl) (by rw [lset_len]; omega), lset_drop _ _ _ (by omega), show 8 - k + 1 = 9 - k from by omega, hd]
    congr 1
    rw [List.take_of_length_le (by simp [bcells, hds])]
    unfold numF
    rw [hbe, hds]
    show _ :: _ = Value.int .u8 ((UInt8.ofNat k).toNat : Nat) :: _
    rw [u8nat (by omega)]
    rfl
end Go.Proofs.YtninaabbojcdpaaGreat.A

namespace Go.Proofs.YtninaabbojcdpaaGreat.A
open Go Go.Vm
set_option maxRecDepth 10000
set_option linter.unusedVariables false
theorem repeatL_len (n : Nat) : (repeatL [.int .u8 0] n).length = n := by
  induction n with
  | zero => rfl
  | succ n ih => simp [repeatL, ih]
theorem Grow_ok {h : Heap} {n : Nat} (hn : n < 1048576) :
    Runs Tryz.prog T0 (.fn fn_zjcQ) [.slice none 0 0, .int .i64 n] h (fun r h' => Own h' 1 r [] 0 ∧ (∀ i, ownedBy r i → h.n ≤ i) ∧ Fr (fun _ => False) h h') (fun _ _ => False) := by
  refine zjcQ_runs ?_
  refine stp ?_
  refine C.if (fun hpos => ?_) (fun hz => ?_)
  · rw [show ((n : Int) - (((0 : Nat) : Int) - ((0 : Nat) : Int))) = (n : Int) from by omega]
    refine stp ?_
    refine O.by (v := .slice none 0 0) (h' := h) (by rfl) rfl ?_
    refine stp ?_
    have hx : appendOf 1 1 [.int .u8 0] true (.slice none 0 0) (.int .i64 (n : Int)) h = .ok (.slice (some ⟨h.n, 0, some 0⟩) n n) (h.push (.cells (repeatL [.int .u8 0] n) 1)) := by
      unfold appendOf newCells
      rw [if_neg (by omega)]
      simp only [Bool.true_and, show (decide ((0 : Int) ≤ (n : Int))) = true from by simp, if_true, Int.toNat_natCast, Nat.zero_add]
      rw [if_neg (by omega), if_neg (by omega), if_neg (by omega)]
    refine O.by hx rfl ?_
    refine stp ?_
    refine O.by (v := .slice (some ⟨h.n, 0, some 0⟩) 0 n) (h' := h.push (.cells (repeatL [.int .u8 0] n) 1)) ?_ rfl ?_
    · show sliceOf _ 1 (.slice (some ⟨h.n, 0, some 0⟩) n n) none (some _) none _ = _
      simp only [sliceOf, bnd, eval, lget]
      rw [show idx (n + 1) (.int .i64 ((0 : Nat) : Int)) = some 0 from idx_in (by omega)]
      simp
    refine stp ?_
    refine ⟨.grown (c := []) (j := repeatL [.int .u8 0] n) (by simp) (by omega) (by omega) rfl (by simp [repeatL_len]) (by rw [Heap.get_push, if_pos rfl]; rfl), fun i hi => by rw [← hi]; exact Nat.le_refl _, Fr.refl.push⟩
  · refine stp ?_
    exact ⟨.none, fun i hi => hi.elim, Fr.refl⟩
def Parts (h : Heap) (ls : List (Value × List UInt8)) : Prop := ∀ p ∈ ls, Rd h 1 p.1 (bcells p.2) p.2.length
theorem Parts.keep {h h' : Heap} {ls : List (Value × List UInt8)} (hp : Parts h ls) (hf : Fr (fun _ => False) h h') : Parts h' ls := fun p hm => (hp p hm).keep hf fun _ _ => id
def flat (ls : List (Value × List UInt8)) : List UInt8 := ls.flatMap (·.2)
theorem flat_take {ls : List (Value × List UInt8)} {k : Nat} (hk : k < ls.length) : flat (ls.take (k + 1)) = flat (ls.take k) ++ ls[k].2 := by
  unfold flat
  rw [List.take_succ_eq_append_getElem hk]
  simp only [List.flatMap_append, List.flatMap_cons, List.flatMap_nil, List.append_nil]
theorem flat_le {ls : List (Value × List UInt8)} (k : Nat) : (flat (ls.take k)).length ≤ (flat ls).length := by
  conv => rhs; rw [← List.take_append_drop k ls]
  unfold flat
  rw [List.flatMap_append]
  simp
theorem lget_map {ls : List (Value × List UInt8)} {k : Nat} (hk : k < ls.length) : lget (ls.map (·.1)) k = ls[k].1 := by
  induction ls generalizing k with
  | nil => simp at hk
  | cons a l ih =>
    cases k with
    | zero => rfl
    | succ k => exact ih (by simpa using hk)
theorem Concat_ok {h : Heap} {v : Value} {ls : List (Value × List UInt8)} (hv : Rd h 1 v (ls.map (·.1)) ls.length) (hp : Parts h ls) (hn : ls.length < 1048576) (hs : (flat ls).length < 1048576) :
    Runs Tryz.prog T0 (.fn fn_zicQ) [v] h (fun r h' => Own h' 1 r (bcells (flat ls)) (flat ls).length ∧ (∀ i, ownedBy r i → h.n ≤ i) ∧ Fr (fun _ => False) h h') (fun _ _ => False) := by
  have hv' := hv
  obtain ⟨a, cap, rfl, hlen, hc⟩ := hv
  refine zicQ_runs ?_
  refine stp ?_
  refine zicQ_l0_rule (fun m v3 v11 h' => ∃ k : Nat, k ≤ ls.length ∧ m = ls.length - k ∧ v3 = .int .i64 (flat (ls.take k)).length ∧ v11 = .int .i64 k ∧ h = h') ?_ ls.length ⟨0, by omega, rfl, rfl, rfl, rfl⟩
  rintro m v3 v11 h' x5 x12 x13 x14 x15 x16 x17 x18 x19 x20 x21 x22 ⟨k, hk, rfl, rfl, rfl, rfl⟩
  refine stp ?_
  refine C.if (fun hlt => ?_) (fun hge => ?_)
  · have hk' : k < ls.length := by omega
    obtain ⟨b, o, sp, rfl, hb, hcc⟩ := hc (by omega)
    rw [Nat.mul_one] at hcc
    haveI := cell_at (k := k) hcc hk'
    rw [lget_map hk'] at this
    haveI := this
    obtain ⟨a1, cap1, hv1, _, _⟩ := hp ls[k] (List.getElem_mem _)
    have hfl := flat_le (ls := ls) (k + 1)
    rw [flat_take hk', List.length_append] at hfl
    refine stp ?_
    rw [hv1]
    refine stp ?_
    refine zicQ_l0_again (ls.length - (k + 1)) (by omega) ⟨k + 1, by omega, rfl, ?_, rfl, rfl⟩
    rw [flat_take hk', List.length_append]
    rfl
  · obtain rfl : k = ls.length := by omega
    rw [List.take_length]
    refine stp ?_
    refine O.call' (Grow_ok hs) (fun r h1 hr => ?_)
    obtain ⟨ho, hnew, hf⟩ := hr
    refine stp ?_
    refine zicQ_l1_rule (fun m v6 v27 h' => ∃ k : Nat, k ≤ ls.length ∧ m = ls.length - k ∧ v27 = .int .i64 k ∧ Own h' 1 v6 (bcells (flat (ls.take k))) (flat (ls.take k)).length ∧ (∀ i, ownedBy v6 i → h'.n ≤ i ∨ h.n ≤ i) ∧ Fr (fun _ => False) h h') ?_ ls.length ⟨0, by omega, rfl, rfl, ho, fun i hi => .inr (hnew i hi), hf⟩
    clear ho hnew hf
    rintro m v6 v27 h' x8 x28 x29 x30 x31 x32 x33 x34 ⟨k, hk, rfl, rfl, ho, hnew, hf⟩
    refine stp ?_
    refine C.if (fun hlt => ?_) (fun hge => ?_)
    · have hk' : k < ls.length := by omega
      obtain ⟨b, o, sp, rfl, hb, hcc⟩ := hc (by omega)
      rw [Nat.mul_one, ← cellsAt_keep hf hb id] at hcc
      haveI := cell_at (k := k) hcc hk'
      rw [lget_map hk'] at this
      haveI := this
      have hpk := (hp ls[k] (List.getElem_mem _)).keep hf fun _ _ => id
      have hfl := flat_le (ls := ls) (k + 1)
      rw [flat_take hk', List.length_append] at hfl
      refine stp ?_
      refine O.append ho (hpk.new [.int .u8 0]) (by rw [bcells_len]; omega) (bcells_one _) (by omega) (by omega) (by omega) (fun v' h2 h3 h4 h5 => ?_)
      refine stp ?_
      refine zicQ_l1_again (ls.length - (k + 1)) (by omega) ⟨k + 1, by omega, rfl, rfl, ?_, fun i hi => ?_, ?_⟩
      · rw [flat_take hk', List.length_append, bcells_append]
        exact h3
      · rcases h5 i hi with h6 | h6
        · rcases hnew i h6 with h7 | h7
          · exact .inr (Nat.le_trans hf.n h7)
          · exact .inr h7
        · exact .inr (Nat.le_trans hf.n h6)
      · refine Fr.trans (S := fun _ => False) hf h4 fun i hi ho' => ?_
        rcases hnew i ho' with h7 | h7
        · have := hf.n; omega
        · omega
    · obtain rfl : k = ls.length := by omega
      rw [List.take_length] at ho
      refine stp ?_
      exact ⟨ho, fun i hi => (hnew i hi).elim (Nat.le_trans hf.n) id, hf⟩
end Go.Proofs.YtninaabbojcdpaaGreat.A

namespace Go.Proofs.YtninaabbojcdpaaGreat.A
open Go Go.Vm
set_option maxRecDepth 10000
set_option linter.unusedVariables false
structure PW (h : Heap) (lo p : Nat) (sv : Value) (bs : List UInt8) (lim : Nat) (e : Int) : Prop where
  lt : p < h.n
  le : lo ≤ p
  get : h.get p = .cells [.int .i64 lim, sv, .int .i64 e, .bool true] 0
  own : Own h 1 sv (bcells bs) bs.length
  apart : ¬ ownedBy sv p
  above : ∀ i, ownedBy sv i → lo ≤ i
  small : bs.length < 1048576
structure WSt where
  bs : List UInt8
  e : Int
structure PWs (h : Heap) (lo p lim : Nat) (st : WSt) : Prop where
  ex : ∃ sv, PW h lo p sv st.bs lim st.e
def putS (lim : Nat) (may : Bool) (part : List UInt8) (st : WSt) : WSt :=
  if st.e ≠ 0 then st else if may = false then ⟨st.bs, 3⟩ else if lim < st.bs.length + part.length then ⟨st.bs, 4⟩ else ⟨st.bs ++ part, 0⟩
theorem PW.keep {S : Nat → Prop} {h h' : Heap} {lo p : Nat} {sv : Value} {bs : List UInt8} {lim : Nat} {e : Int} (hp : PW h lo p sv bs lim e) (hf : Fr S h h') (hs : ¬ S p) (hb : ∀ i, ownedBy sv i → ¬ S i) : PW h' lo p sv bs lim e :=
  ⟨hf.lt hp.lt, hp.le, by rw [hf.get p hp.lt hs, hp.get], hp.own.keep hf hb, hp.apart, hp.above, hp.small⟩
theorem PWs.keep {S : Nat → Prop} {h h' : Heap} {lo p lim : Nat} {st : WSt} (hp : PWs h lo p lim st) (hf : Fr S h h') (hs : ∀ i, S i → i < lo) : PWs h' lo p lim st :=
  let ⟨sv, hw⟩ := hp.ex
  ⟨sv, hw.keep hf (fun h => by have := hs _ h; have := hw.le; omega) fun i hi h => by have := hs _ h; have := hw.above i hi; omega⟩
theorem PWs.none {h h' : Heap} {lo p lim : Nat} {st : WSt} (hp : PWs h lo p lim st) (hf : Fr (fun _ => False) h h') : PWs h' lo p lim st := hp.keep hf fun _ h => h.elim
theorem PWs.lo_le {h : Heap} {lo p lim : Nat} {st : WSt} (hp : PWs h lo p lim st) : lo ≤ h.n := let ⟨_, hw⟩ := hp.ex; Nat.le_of_lt (Nat.lt_of_le_of_lt hw.le hw.lt)
def Writes (h : Heap) (lo p lim : Nat) (st : WSt) (r : Value) (h' : Heap) : Prop := r = .int .i64 st.e ∧ PWs h' lo p lim st ∧ Fr (fun i => lo ≤ i) h h'
theorem put_ok {h : Heap} {lo p lim : Nat} {st : WSt} {may : Bool} {v : Value} {ls : List (Value × List UInt8)} (hw : PWs h lo p lim st) (hv : Rd h 1 v (ls.map (·.1)) ls.length) (hp : Parts h ls) (hn : ls.length < 1048576) (hs : st.bs.length + (flat ls).length < 1048576) :
    Runs Tryz.prog T0 (.fn fn_zodQ) [.pointer (some ⟨p, 0, none⟩), .bool may, v] h (Writes h lo p lim (putS lim may (flat ls) st)) (fun _ _ => False) := by
  obtain ⟨bs, e⟩ := st
  obtain ⟨sv, hw⟩ := hw.ex
  have hs : bs.length + (flat ls).length < 1048576 := hs
  have hw : PW h lo p sv bs lim e := hw
  have hle := hw.le
  have hlt := hw.lt
  obtain ⟨a0, cap0, rfl, hl0, _⟩ := hw.own.rd
  haveI : HGet h p _ := ⟨hw.get⟩
  refine zodQ_runs ?_
  refine stp ?_
  refine O.call' (Concat_ok hv hp hn (by omega)) (fun r h1 hr => ?_)
  obtain ⟨ho, hnew, hf⟩ := hr
  obtain ⟨a1, cap1, rfl, hl1, _⟩ := ho.rd
  have hw1 := hw.keep hf id fun _ _ => id
  haveI : HGet h1 p _ := ⟨hw1.get⟩
  have hfl : Fr (fun i => lo ≤ i) h h1 := hf.mono fun _ _ h => h.elim
  refine stp ?_
  refine C.ifN (fun he => ?_) (fun he => ?_)
  · refine stp ?_
    unfold putS
    rw [if_pos (by simpa using he)]
    exact ⟨rfl, ⟨_, hw1⟩, hfl⟩
  · subst he
    refine stp ?_
    cases may with
    | false =>
      refine stp ?_
      unfold putS
      rw [if_neg (by simp), if_pos rfl]
      refine ⟨rfl, ⟨.slice a0 bs.length cap0, by simpa using hw1.lt, hw.le, by rw [Heap.get_set, if_pos rfl], hw1.own.keep (S := fun i => i = p) (Fr.refl.set fun _ => rfl) fun i hi hp => hw1.apart (hp ▸ hi), hw1.apart, hw1.above, hw1.small⟩, hfl.set fun _ => hw.le⟩
    | true =>
      refine stp ?_
      refine C.if (fun hlong => ?_) (fun hfit => ?_)
      · refine stp ?_
        unfold putS
        rw [if_neg (by simp), if_neg (by simp), if_pos (by simp only; omega)]
        refine ⟨rfl, ⟨.slice a0 bs.length cap0, by simpa using hw1.lt, hw.le, by rw [Heap.get_set, if_pos rfl], hw1.own.keep (S := fun i => i = p) (Fr.refl.set fun _ => rfl) fun i hi hp => hw1.apart (hp ▸ hi), hw1.apart, hw1.above, hw1.small⟩, hfl.set fun _ => hw.le⟩
      · refine stp ?_
        refine O.append hw1.own (ho.rd.new [.int .u8 0]) (by rw [bcells_len]; omega) (bcells_one _) (by omega) (by omega) (by omega) (fun v' h2 h3 h4 h5 => ?_)
        obtain ⟨a2, cap2, rfl, hl2, _⟩ := h3.rd
        have hp2 : HGet h2 p _ := h4.keep ⟨hw1.get⟩ hw1.lt hw1.apart
        refine stp ?_
        have hnp : ¬ ownedBy (.slice a2 (bs.length + (flat ls).length) cap2) p := fun hi => by
          rcases h5 p hi with h6 | h6
          · exact hw1.apart h6
          · have := hw1.lt; omega
        unfold putS
        rw [if_neg (by simp), if_neg (by simp), if_neg (by simp only; omega)]
        refine ⟨rfl, ⟨_, by have := h4.lt hw1.lt; simpa using this, hw.le, by rw [Heap.get_set, if_pos rfl], ?_, hnp, fun i hi => ?_, by simp; omega⟩, Fr.set (Fr.trans (S := fun i => lo ≤ i) hfl h4 fun i hi ho' => hw1.above i ho') fun _ => hw.le⟩
        · show Own _ 1 (.slice a2 (bs.length + (flat ls).length) cap2) (bcells (bs ++ flat ls)) (bs ++ flat ls).length
          rw [bcells_append, List.length_append]
          exact h3.keep (S := fun i => i = p) (Fr.refl.set fun _ => rfl) fun i hi hp => hnp (hp ▸ hi)
        · rcases h5 i hi with h6 | h6
          · exact hw1.above i h6
          · have := hw1.lt; omega
end Go.Proofs.YtninaabbojcdpaaGreat.A

namespace Go.Proofs.YtninaabbojcdpaaGreat.A
open Go Go.Vm
set_option maxRecDepth 10000
set_option linter.unusedVariables false
theorem numF_len {n : Nat} (h : n ≤ 9223372036854775807) : (numF n).length ≤ 9 := by
  have := beN_len 8 n (by omega)
  simp [numF]; omega
theorem rd_lit {h : Heap} {c : List Value} {n es : Nat} (hc : c.length = n) : Rd (h.push (.cells c es)) 1 (.slice (some ⟨h.n, 0, none⟩) n n) c n := by
  refine Rd.mk (by simp) ?_
  rw [cellsAt_of (c := c) (by rw [Heap.get_push, if_pos rfl]; rfl) (by omega), List.drop_zero, List.take_of_length_le (by omega)]
theorem WNum_ok {h : Heap} {lo p lim : Nat} {st : WSt} {n : Int} (hw : PWs h lo p lim st) (hn : n ≤ 9223372036854775807) (hs : st.bs.length + 9 < 1048576) :
    Runs Tryz.prog T0 (.fn fn_zldQ) [.pointer (some ⟨p, 0, none⟩), .int .i64 n] h (Writes h lo p lim (putS lim (decide (0 ≤ n)) (numF n.toNat) st)) (fun _ _ => False) := by
  have hlo := hw.lo_le
  refine zldQ_runs ?_
  refine stp ?_
  have hm : (if (0 : Int) > n then 0 else n) = ((n.toNat : Nat) : Int) := by split <;> omega
  rw [hm]
  refine O.call' (number_ok (N := n.toNat) (by omega)) (fun r h1 hr => ?_)
  obtain ⟨hrd, hnew, hf⟩ := hr
  have hw1 := hw.none hf
  have hfl := numF_len (n := n.toNat) (by omega)
  obtain ⟨a1, cap1, rfl, hl1, _⟩ := id hrd
  refine stp ?_
  refine O.call' (put_ok (ls := [(.slice a1 (numF n.toNat).length cap1, numF n.toNat)]) (hw1.none Fr.refl.push) (rd_lit rfl) ?_ (by simp) (by simp [flat]; omega)) (fun r h2 hr => ?_)
  · intro q hq
    simp at hq
    subst hq
    exact hrd.keep (S := fun _ => False) Fr.refl.push fun _ _ => id
  · refine stp ?_
    rw [show flat [(Value.slice a1 (numF n.toNat).length cap1, numF n.toNat)] = numF n.toNat from by simp [flat]] at hr
    exact ⟨hr.1, hr.2.1, Fr.trans (S := fun i => lo ≤ i) (hf.mono fun _ _ h => h.elim) (Fr.trans (S := fun i => lo ≤ i) Fr.refl.push hr.2.2 fun _ _ h => h) fun _ _ h => h⟩
theorem WBytes_ok {h : Heap} {lo p lim : Nat} {st : WSt} {v : Value} {l : List UInt8} (hw : PWs h lo p lim st) (hv : Rd h 1 v (bcells l) l.length) (hs : st.bs.length + l.length + 9 < 1048576) :
    Runs Tryz.prog T0 (.fn fn_zhdQ) [.pointer (some ⟨p, 0, none⟩), v] h (Writes h lo p lim (putS lim true (numF l.length ++ l) st)) (fun _ _ => False) := by
  have hlo := hw.lo_le
  have hv' := hv
  obtain ⟨a0, cap0, rfl, hl0, _⟩ := hv
  refine zhdQ_runs ?_
  refine stp ?_
  refine O.call' (number_ok (N := l.length) (by omega)) (fun r h1 hr => ?_)
  obtain ⟨hrd, hnew, hf⟩ := hr
  have hw1 := hw.none hf
  have hfl := numF_len (n := l.length) (by omega)
  obtain ⟨a1, cap1, rfl, hl1, _⟩ := id hrd
  refine stp ?_
  refine O.call' (put_ok (ls := [(.slice a1 (numF l.length).length cap1, numF l.length), (.slice a0 l.length cap0, l)]) (hw1.none Fr.refl.push) (rd_lit rfl) ?_ (by simp) (by simp [flat]; omega)) (fun r h2 hr => ?_)
  · intro q hq
    simp at hq
    rcases hq with rfl | rfl
    · exact hrd.keep (S := fun _ => False) Fr.refl.push fun _ _ => id
    · exact (hv'.keep hf fun _ _ => id).keep (S := fun _ => False) Fr.refl.push fun _ _ => id
  · refine stp ?_
    rw [show flat [(Value.slice a1 (numF l.length).length cap1, numF l.length), (Value.slice a0 l.length cap0, l)] = numF l.length ++ l from by simp [flat]] at hr
    exact ⟨hr.1, hr.2.1, Fr.trans (S := fun i => lo ≤ i) (hf.mono fun _ _ h => h.elim) (Fr.trans (S := fun i => lo ≤ i) Fr.refl.push hr.2.2 fun _ _ h => h) fun _ _ h => h⟩
theorem bcells_data (s : ByteArray) : (bcells s.data.toList).length = s.size := by simp [bcells]
theorem WText_ok {h : Heap} {lo p lim : Nat} {st : WSt} {s : ByteArray} (hw : PWs h lo p lim st) (hs : st.bs.length + s.size + 9 < 1048576) :
    Runs Tryz.prog T0 (.fn fn_zmdQ) [.pointer (some ⟨p, 0, none⟩), .string s] h (Writes h lo p lim (putS lim true (numF s.size ++ s.data.toList) st)) (fun _ _ => False) := by
  have hlo := hw.lo_le
  have hsz : s.data.toList.length = s.size := by simp
  refine zmdQ_runs ?_
  refine stp ?_
  refine O.call' (WBytes_ok (l := s.data.toList) (hw.none Fr.refl.push) ?_ (by omega)) (fun r h2 hr => ?_)
  · rw [hsz]
    refine Rd.mk (by simp) ?_
    rw [cellsAt_of (c := bcells s.data.toList) (by rw [Heap.get_push, if_pos rfl]; rfl) (by rw [bcells_data]; omega), List.drop_zero, List.take_of_length_le (by rw [bcells_data]; omega)]
  · refine stp ?_
    rw [hsz] at hr
    exact ⟨hr.1, hr.2.1, Fr.trans (S := fun i => lo ≤ i) Fr.refl.push hr.2.2 fun _ _ h => h⟩
theorem WHash_ok {h : Heap} {lo p lim : Nat} {st : WSt} {l : List UInt8} (hw : PWs h lo p lim st) (hl : l.length = 32) (hs : st.bs.length + 32 < 1048576) :
    Runs Tryz.prog T0 (.fn fn_zjdQ) [.pointer (some ⟨p, 0, none⟩), .agg ⟨bcells l⟩] h (Writes h lo p lim (putS lim true l st)) (fun _ _ => False) := by
  have hlo := hw.lo_le
  haveI := l32 hl
  refine zjdQ_runs ?_
  refine stp ?_
  refine O.call' (put_ok (ls := [(.slice (some ⟨h.n, 0, none⟩) 32 32, l)]) (hw.none Fr.refl.push.push) (rd_lit rfl) ?_ (by simp) (by simp [flat]; omega)) (fun r h2 hr => ?_)
  · intro q hq
    simp at hq
    subst hq
    rw [hl]
    exact (rd_lit (h := h) (c := bcells l) (es := 0) (n := 32) (by simpa [bcells] using hl)).keep (S := fun _ => False) Fr.refl.push fun _ _ => id
  · refine stp ?_
    rw [show flat [(Value.slice (some ⟨h.n, 0, none⟩) 32 32, l)] = l from by simp [flat]] at hr
    exact ⟨hr.1, hr.2.1, Fr.trans (S := fun i => lo ≤ i) Fr.refl.push.push hr.2.2 fun _ _ h => h⟩
theorem NewWriter_ok {h : Heap} {lim : Nat} (hl : lim ≤ 1048576) :
    Runs Tryz.prog T0 (.fn fn_zpcQ) [.int .i64 lim] h (fun r h' => r = .tuple ⟨[.pointer (some ⟨h.n, 0, none⟩), .int .i64 0]⟩ ∧ PWs h' h.n h.n lim ⟨[], 0⟩ ∧ Fr (fun _ => False) h h') (fun _ _ => False) := by
  refine zpcQ_runs ?_
  refine stp ?_
  refine C.if (fun h1 => by omega) (fun _ => ?_)
  refine stp ?_
  refine ⟨rfl, ⟨.slice none 0 0, by simp, Nat.le_refl _, by rw [Heap.get_push, if_pos rfl], .none, fun h => h, fun i h => h.elim, by simp⟩, Fr.refl.push⟩
theorem Done_ok {h : Heap} {lo p lim : Nat} {st : WSt} (hw : PWs h lo p lim st) :
    Runs Tryz.prog T0 (.fn fn_zidQ) [.pointer (some ⟨p, 0, none⟩)] h
      (fun r h' => ∃ v, r = .tuple ⟨[v, .int .i64 st.e]⟩ ∧ Own h' 1 v (bcells (if st.e = 0 then st.bs else [])) (if st.e = 0 then st.bs else []).length ∧ (∀ i, ownedBy v i → h.n ≤ i) ∧ Fr (fun _ => False) h h') (fun _ _ => False) := by
  obtain ⟨bs, e⟩ := st
  obtain ⟨sv, hw⟩ := hw.ex
  have hw : PW h lo p sv bs lim e := hw
  obtain ⟨a0, cap0, rfl, hl0, _⟩ := hw.own.rd
  haveI : HGet h p _ := ⟨hw.get⟩
  refine zidQ_runs ?_
  refine stp ?_
  refine C.ifN (fun he => ?_) (fun he => ?_)
  · refine stp ?_
    rw [if_neg he]
    exact ⟨_, rfl, .none, fun i h => h.elim, Fr.refl⟩
  · subst he
    refine stp ?_
    refine O.call' (Clone_ok hw.own.rd hw.small) (fun r h1 hr => ?_)
    refine stp ?_
    exact ⟨_, rfl, hr.1, hr.2.2, hr.2.1⟩
end Go.Proofs.YtninaabbojcdpaaGreat.A

namespace Go.Proofs.YtninaabbojcdpaaGreat.A
open Go Go.Vm
set_option maxRecDepth 10000
set_option linter.unusedVariables false
def plainP (c : Int) : Prop := (97 ≤ c ∧ c ≤ 122) ∨ (48 ≤ c ∧ c ≤ 57) ∨ c = 45
instance (c : Int) : Decidable (plainP c) := by unfold plainP; infer_instance
theorem plain_ok {h : Heap} {c : Int} : Runs Tryz.prog T0 (.fn fn_zyQ) [.int .i32 c] h (fun r h' => r = .bool (decide (plainP c)) ∧ h' = h) (fun _ _ => False) := by
  have fin : ∀ {b : Bool}, (b = true ↔ plainP c) → Value.bool b = .bool (decide (plainP c)) := fun {b} hb => by
    congr 1
    by_cases hp : plainP c
    · rw [decide_eq_true hp]; exact hb.2 hp
    · rw [decide_eq_false hp]
      cases b with
      | false => rfl
      | true => exact absurd (hb.1 rfl) hp
  unfold plainP at fin
  refine zyQ_runs ?_
  refine stp ?_
  refine O.dec (fun h1 => ?_) (fun h1 => ?_)
  · refine stp ?_
    refine O.dec (fun h2 => ?_) (fun h2 => ?_)
    · refine stp ?_
      exact ⟨fin (by simp; omega), rfl⟩
    · refine stp ?_
      refine O.dec (fun h3 => ?_) (fun h3 => ?_)
      · refine stp ?_
        refine O.dec (fun h4 => ?_) (fun h4 => ?_)
        · refine stp ?_
          exact ⟨fin (by simp; omega), rfl⟩
        · refine stp ?_
          exact ⟨fin (by simp; omega), rfl⟩
      · refine stp ?_
        exact ⟨fin (by simp; omega), rfl⟩
  · refine stp ?_
    refine O.dec (fun h3 => ?_) (fun h3 => ?_)
    · refine stp ?_
      refine O.dec (fun h4 => ?_) (fun h4 => ?_)
      · refine stp ?_
        exact ⟨fin (by simp; omega), rfl⟩
      · refine stp ?_
        exact ⟨fin (by simp; omega), rfl⟩
    · refine stp ?_
      exact ⟨fin (by simp; omega), rfl⟩
def plainB (b : UInt8) : Bool := decide (plainP (b.toNat : Nat))
theorem each_ok {h : Heap} {l : List UInt8} : Runs Tryz.prog T0 (.fn fn_zwQ) [.string ⟨⟨l⟩⟩, .func (.func fn_zyQ) ⟨[]⟩ ⟨[]⟩] h (fun r h' => r = .bool (l.all plainB) ∧ Fr (fun _ => False) h h') (fun _ _ => False) := by
  refine zwQ_runs ?_
  refine stp ?_
  refine zwQ_l0_rule (v := undef) (fun m h' => ∃ pos : Nat, pos ≤ l.length ∧ m = l.length - pos ∧ h' = h.push (.strIter ⟨⟨l⟩⟩ pos) ∧ (l.take pos).all plainB = true) ?_ l.length ⟨0, by omega, rfl, rfl, by simp⟩
  rintro m h' x4 x6 x9 x10 x11 x12 x13 x14 x15 ⟨pos, hpos, rfl, rfl, hall⟩
  refine stp ?_
  by_cases hlt : pos < l.length
  · have hsz : pos < (ByteArray.mk ⟨l⟩).size := hlt
    refine O.how (XOp.mkNextStr hsz) ?_
    refine stp ?_
    refine O.call' plain_ok (fun r h2 hr => ?_)
    obtain ⟨rfl, rfl⟩ := hr
    refine stp ?_
    have hb : (ByteArray.mk ⟨l⟩)[pos] = l[pos] := rfl
    have htake : l.take (pos + 1) = l.take pos ++ [l[pos]] := List.take_succ_eq_append_getElem hlt
    refine C.ifN (fun hp => ?_) (fun hp => ?_)
    · refine stp ?_
      rw [Heap.push_set]
      refine ⟨?_, Fr.refl.push⟩
      have : plainB l[pos] = false := by
        unfold plainB
        by_cases ha : (l[pos]).toNat < 128
        · rw [decode_ascii _ _ hsz (by rw [hb]; exact ha)] at hp
          exact decide_eq_false (by rw [hb] at hp; exact hp)
        · refine decide_eq_false fun h => ?_
          unfold plainP at h
          omega
      congr 1
      refine (List.all_eq_false.2 ⟨l[pos], List.getElem_mem _, by rw [this]; simp⟩).symm
    · have ha : (l[pos]).toNat < 128 := by
        rcases Nat.lt_or_ge (l[pos]).toNat 128 with h | h
        · exact h
        · have := (decode_high _ _ hsz (by rw [hb]; exact h)).1
          unfold plainP at hp
          omega
      rw [decode_ascii _ _ hsz (by rw [hb]; exact ha)] at hp
      rw [decode_ascii _ _ hsz (by rw [hb]; exact ha)]
      refine stp ?_
      rw [Heap.push_set]
      refine zwQ_l0_again (v := undef) (l.length - (pos + 1)) (by omega) ⟨pos + 1, by omega, rfl, rfl, ?_⟩
      rw [htake, List.all_append, hall]
      simp only [List.all_cons, List.all_nil, Bool.and_true, Bool.true_and]
      exact decide_eq_true (by rw [hb] at hp; exact hp)
  · obtain rfl : pos = l.length := by omega
    refine O.how (XOp.mkNextEnd (s := ⟨⟨l⟩⟩) (pos := l.length) (by show ¬ l.length < l.length; omega)) ?_
    refine stp ?_
    rw [List.take_length] at hall
    rw [hall]
    exact ⟨rfl, Fr.refl.push⟩
def nameS (l : List UInt8) : Bool := decide (1 ≤ l.length) && decide (l.length ≤ 32) && l.all plainB
theorem Name_ok {h : Heap} {l : List UInt8} : Runs Tryz.prog T0 (.fn fn_zvQ) [.string ⟨⟨l⟩⟩] h (fun r h' => r = .bool (nameS l) ∧ Fr (fun _ => False) h h') (fun _ _ => False) := by
  have hsz : (ByteArray.mk ⟨l⟩).size = l.length := rfl
  refine zvQ_runs ?_
  refine stp ?_
  unfold nameS
  refine O.dec (fun h1 => ?_) (fun h1 => ?_)
  · refine stp ?_
    refine O.dec (fun h2 => ?_) (fun h2 => ?_)
    · refine stp ?_
      refine O.callT each_ok (fun r h' hr => ?_)
      obtain ⟨rfl, hf⟩ := hr
      refine stp ?_
      rw [decide_eq_true (show 1 ≤ l.length by omega), decide_eq_true (show l.length ≤ 32 by omega)]
      exact ⟨rfl, hf⟩
    · refine stp ?_
      rw [decide_eq_false (show ¬ l.length ≤ 32 by omega)]
      exact ⟨by simp, Fr.refl⟩
  · refine stp ?_
    rw [decide_eq_false (show ¬ 1 ≤ l.length by omega)]
    exact ⟨by simp, Fr.refl⟩
end Go.Proofs.YtninaabbojcdpaaGreat.A

namespace Go.Proofs.YtninaabbojcdpaaGreat.A
open Go Go.Vm
set_option maxRecDepth 10000
set_option linter.unusedVariables false
structure Hd where
  chain : List UInt8
  height : Int
  time : Int
  prev : List UInt8
  vals : List UInt8
  next : List UInt8
  app : List UInt8
structure Hd.ok (x : Hd) : Prop where
  prev : x.prev.length = 32
  vals : x.vals.length = 32
  next : x.next.length = 32
  app : x.app.length = 32
abbrev Hd.cells (x : Hd) : List Value := .string ⟨⟨x.chain⟩⟩ :: .int .i64 x.height :: .int .i64 x.time :: (bcells x.prev ++ (bcells x.vals ++ (bcells x.next ++ bcells x.app)))
theorem rules1_ok {h : Heap} {x : Hd} (hx : x.ok) : Runs Tryz.prog T0 (.fn fn_zabQ) [.agg ⟨x.cells⟩] h (fun r h' => r = .bool (nameS x.chain) ∧ Fr (fun _ => False) h h') (fun _ _ => False) := by
  refine zabQ_runs ?_
  refine stpP ?_
  refine O.call' Name_ok (fun r h' hr => ?_)
  obtain ⟨rfl, hf⟩ := hr
  refine stpP ?_
  exact ⟨rfl, Fr.trans (S := fun _ => False) Fr.refl.push hf fun _ _ h => h⟩
theorem rules2_ok {h : Heap} {x : Hd} (hx : x.ok) : Runs Tryz.prog T0 (.fn fn_zbbQ) [.agg ⟨x.cells⟩] h (fun r h' => r = .bool (decide (1 ≤ x.height ∧ x.height ≤ 1073741824)) ∧ Fr (fun _ => False) h h') (fun _ _ => False) := by
  refine zbbQ_runs ?_
  refine stpP ?_
  refine O.dec (fun h1 => ?_) (fun h1 => ?_)
  · refine stpP ?_
    exact ⟨by simp [h1], Fr.refl.push⟩
  · refine stpP ?_
    exact ⟨by simp [h1], Fr.refl.push⟩
theorem rules3_ok {h : Heap} {x : Hd} (hx : x.ok) : Runs Tryz.prog T0 (.fn fn_zcbQ) [.agg ⟨x.cells⟩] h (fun r h' => r = .bool (decide (0 ≤ x.time ∧ x.time ≤ 1099511627776)) ∧ Fr (fun _ => False) h h') (fun _ _ => False) := by
  refine zcbQ_runs ?_
  refine stpP ?_
  refine O.dec (fun h1 => ?_) (fun h1 => ?_)
  · refine stpP ?_
    exact ⟨by simp [h1], Fr.refl.push⟩
  · refine stpP ?_
    exact ⟨by simp [h1], Fr.refl.push⟩
theorem rules_ok {h : Heap} : Runs Tryz.prog T0 (.fn fn_zzQ) [] h (fun r h' => r = .slice (some ⟨h.n, 0, none⟩) 3 3 ∧ h' = h.push (.cells [.func (.func fn_zabQ) ⟨[]⟩ ⟨[]⟩, .int .i64 5, .func (.func fn_zbbQ) ⟨[]⟩ ⟨[]⟩, .int .i64 3, .func (.func fn_zcbQ) ⟨[]⟩ ⟨[]⟩, .int .i64 3] 0)) (fun _ _ => False) := by
  refine zzQ_runs (v := undef) ?_
  refine stpP ?_
  exact ⟨rfl, rfl⟩
def checkS (x : Hd) : Int := if nameS x.chain = false then 5 else if ¬ (1 ≤ x.height ∧ x.height ≤ 1073741824) then 3 else if ¬ (0 ≤ x.time ∧ x.time ≤ 1099511627776) then 3 else 0
theorem Check_ok {h : Heap} {x : Hd} (hx : x.ok) : Runs Tryz.prog T0 (.fn fn_zsQ) [.agg ⟨x.cells⟩] h (fun r h' => r = .int .i64 (checkS x) ∧ Fr (fun _ => False) h h') (fun _ _ => False) := by
  haveI := l32 hx.prev
  haveI := l32 hx.vals
  haveI := l32 hx.next
  haveI := l32 hx.app
  refine zsQ_runs ?_
  refine stpP ?_
  refine O.call' rules_ok (fun r h1 hr => ?_)
  obtain ⟨rfl, rfl⟩ := hr
  refine stpP ?_
  refine zsQ_l0_rule (fun m v7 h' => ∃ k : Nat, k ≤ 3 ∧ m = 3 - k ∧ v7 = .int .i64 k ∧ Fr (fun _ => False) ((h.push (.cells x.cells 0)).push (.cells [.func (.func fn_zabQ) ⟨[]⟩ ⟨[]⟩, .int .i64 5, .func (.func fn_zbbQ) ⟨[]⟩ ⟨[]⟩, .int .i64 3, .func (.func fn_zcbQ) ⟨[]⟩ ⟨[]⟩, .int .i64 3] 0)) h' ∧
    (0 < k → nameS x.chain = true) ∧ (1 < k → 1 ≤ x.height ∧ x.height ≤ 1073741824) ∧ (2 < k → 0 ≤ x.time ∧ x.time ≤ 1099511627776)) ?_ 3 ⟨0, by omega, rfl, rfl, Fr.refl, by omega, by omega, by omega⟩
  rintro m v7 h' x2 x4 x8 x9 x10 x11 x12 x13 x14 x15 x16 x17 x18 ⟨k, hk, rfl, rfl, hf, h1, h2, h3⟩
  have hf0 : Fr (fun _ => False) h h' := Fr.trans (S := fun _ => False) Fr.refl.push.push hf fun _ _ h => h
  haveI : HGet h' h.n _ := hf.keep (b := h.n) (HGet.push (k := BLt.new) (g := HGet.new)) (by simp; omega) id
  haveI : HGet h' (h.push (.cells x.cells 0)).n _ := hf.keep (b := (h.push (.cells x.cells 0)).n) HGet.new (by simp) id
  haveI : BLt h.n h' := ⟨by have := hf.n; simp at this; omega⟩
  haveI : BLt (h.push (.cells x.cells 0)).n h' := ⟨by have := hf.n; simp at this ⊢; omega⟩
  have hend : ∀ {o : AObj} {b : Heap}, Fr (fun _ => False) (h'.push o) b → Fr (fun _ => False) h' b := fun hb => Fr.trans (S := fun _ => False) Fr.refl.push hb fun _ _ h => h
  rcases (show k = 0 ∨ k = 1 ∨ k = 2 ∨ k = 3 by omega) with rfl | rfl | rfl | rfl
  · refine stpP ?_
    rw [Nat.zero_mul]
    refine stpP ?_
    refine O.call' (rules1_ok hx) (fun r h2' hr => ?_)
    obtain ⟨rfl, hf2⟩ := hr
    haveI : HGet h2' h'.n _ := hf2.keep (b := h'.n) HGet.new (by simp) id
    refine stpP ?_
    refine C.ifB (fun hb => ?_) (fun hb => ?_)
    · refine stpP ?_
      unfold checkS
      rw [if_pos (by simpa using hb)]
      exact ⟨rfl, hf0.trans' (hend hf2)⟩
    · refine stpP ?_
      exact zsQ_l0_again 2 (by omega) ⟨1, by omega, rfl, rfl, hf.trans' (hend hf2), fun _ => by simpa using hb, by omega, by omega⟩
  · refine stpP ?_
    refine O.call' (rules2_ok hx) (fun r h2' hr => ?_)
    obtain ⟨rfl, hf2⟩ := hr
    haveI : HGet h2' h'.n _ := hf2.keep (b := h'.n) HGet.new (by simp) id
    refine stpP ?_
    refine C.ifN (fun hb => ?_) (fun hb => ?_)
    · refine stpP ?_
      unfold checkS
      rw [if_neg (by rw [h1 (by omega)]; simp), if_pos hb]
      exact ⟨rfl, hf0.trans' (hend hf2)⟩
    · refine stpP ?_
      exact zsQ_l0_again 1 (by omega) ⟨2, by omega, rfl, rfl, hf.trans' (hend hf2), fun _ => h1 (by omega), fun _ => hb, by omega⟩
  · refine stpP ?_
    refine O.call' (rules3_ok hx) (fun r h2' hr => ?_)
    obtain ⟨rfl, hf2⟩ := hr
    haveI : HGet h2' h'.n _ := hf2.keep (b := h'.n) HGet.new (by simp) id
    refine stpP ?_
    refine C.ifN (fun hb => ?_) (fun hb => ?_)
    · refine stpP ?_
      unfold checkS
      rw [if_neg (by rw [h1 (by omega)]; simp), if_neg (fun h => h (h2 (by omega))), if_pos hb]
      exact ⟨rfl, hf0.trans' (hend hf2)⟩
    · refine stpP ?_
      exact zsQ_l0_again 0 (by omega) ⟨3, by omega, rfl, rfl, hf.trans' (hend hf2), fun _ => h1 (by omega), fun _ => h2 (by omega), fun _ => hb⟩
  · refine stpP ?_
    unfold checkS
    rw [if_neg (by rw [h1 (by omega)]; simp), if_neg (fun h => h (h2 (by omega))), if_neg (fun h => h (h3 (by omega)))]
    exact ⟨rfl, hf0⟩
theorem hashes_ok {h : Heap} {x : Hd} {q : Nat} (hq : h.get q = .cells x.cells 0) (hlt : q < h.n) : Runs Tryz.prog T0 (.fn fn_zxQ) [.pointer (some ⟨q, 0, none⟩)] h
    (fun r h' => r = .agg ⟨[.pointer (some ⟨q, 3, none⟩), .pointer (some ⟨q, 35, none⟩), .pointer (some ⟨q, 67, none⟩), .pointer (some ⟨q, 99, none⟩)]⟩ ∧ Fr (fun _ => False) h h') (fun _ _ => False) := by
  refine zxQ_runs ?_
  refine stpP ?_
  exact ⟨rfl, Fr.refl.push⟩
end Go.Proofs.YtninaabbojcdpaaGreat.A

namespace Go.Proofs.YtninaabbojcdpaaGreat.A
open Go Go.Vm
set_option maxRecDepth 10000
set_option linter.unusedVariables false
def encS (x : Hd) : List UInt8 := numF x.chain.length ++ x.chain ++ numF x.height.toNat ++ numF x.time.toNat ++ x.prev ++ x.vals ++ x.next ++ x.app
theorem putS_fit {lim : Nat} {part : List UInt8} {bs : List UInt8} (h : bs.length + part.length ≤ lim) : putS lim true part ⟨bs, 0⟩ = ⟨bs ++ part, 0⟩ := by
  unfold putS
  rw [if_neg (by simp), if_neg (by simp), if_neg (by simp only; omega)]
theorem checkS_ok {x : Hd} (h : checkS x = 0) : nameS x.chain = true ∧ (1 ≤ x.height ∧ x.height ≤ 1073741824) ∧ (0 ≤ x.time ∧ x.time ≤ 1099511627776) := by
  unfold checkS at h
  split at h
  · cases h
  · rename_i h1
    split at h
    · cases h
    · rename_i h2
      split at h
      · cases h
      · rename_i h3
        exact ⟨by simpa using h1, Classical.not_not.1 h2, Classical.not_not.1 h3⟩
theorem nameS_len {l : List UInt8} (h : nameS l = true) : 1 ≤ l.length ∧ l.length ≤ 32 ∧ l.all plainB = true := by
  unfold nameS at h
  simp only [Bool.and_eq_true, decide_eq_true_eq] at h
  exact ⟨h.1.1, h.1.2, h.2⟩
theorem Encode_ok {h : Heap} {x : Hd} (hx : x.ok) : Runs Tryz.prog T0 (.fn fn_zuQ) [.agg ⟨x.cells⟩] h
    (fun r h' => ∃ v, r = .tuple ⟨[v, .int .i64 (checkS x)]⟩ ∧ Own h' 1 v (bcells (if checkS x = 0 then encS x else [])) (if checkS x = 0 then encS x else []).length ∧ (∀ i, ownedBy v i → h.n ≤ i) ∧ Fr (fun _ => False) h h') (fun _ _ => False) := by
  haveI := l32 hx.prev
  haveI := l32 hx.vals
  haveI := l32 hx.next
  haveI := l32 hx.app
  refine zuQ_runs ?_
  refine stp ?_
  refine O.call' (Check_ok hx) (fun r h1 hr => ?_)
  obtain ⟨rfl, hf1⟩ := hr
  have hn1 := hf1.n
  simp at hn1
  haveI : HGet h1 h.n _ := hf1.keep (b := h.n) HGet.new (by simp) id
  have hf1' : Fr (fun _ => False) h h1 := Fr.trans (S := fun _ => False) Fr.refl.push hf1 fun _ _ h => h
  refine stp ?_
  refine C.ifN (fun hc => ?_) (fun hc => ?_)
  · refine stp ?_
    rw [if_neg hc]
    exact ⟨_, rfl, .none, fun i h => h.elim, hf1'⟩
  · refine stp ?_
    obtain ⟨c1, c2, c3⟩ := checkS_ok hc
    obtain ⟨d1, d2, d3⟩ := nameS_len c1
    have hsz : (ByteArray.mk ⟨x.chain⟩).size = x.chain.length := rfl
    have l1 := numF_len (n := x.chain.length) (by omega)
    have l2 := numF_len (n := x.height.toNat) (by omega)
    have l3 := numF_len (n := x.time.toNat) (by omega)
    have l4 := hx.prev
    have l5 := hx.vals
    have l6 := hx.next
    have l7 := hx.app
    refine O.call' (NewWriter_ok (lim := 65536) (by omega)) (fun r h2 hr => ?_)
    obtain ⟨rfl, hw2, hf2⟩ := hr
    haveI : HGet h2 h.n _ := hf2.keep (b := h.n) inferInstance (by omega) id
    have hlt2 := hf2.n
    refine stp ?_
    refine O.call' (WText_ok hw2 (by simp only [List.length_nil]; omega)) (fun r h3 hr => ?_)
    obtain ⟨rfl, hw3, hf3⟩ := hr
    haveI : HGet h3 h.n _ := hf3.keep (b := h.n) inferInstance (by omega) (by omega)
    have hlt3 := hf3.n
    have e3 : putS 65536 true (numF x.chain.length ++ x.chain) ⟨[], 0⟩ = ⟨numF x.chain.length ++ x.chain, 0⟩ := putS_fit (by simp only [List.length_nil, List.length_append]; omega)
    have hw3 : PWs h3 h1.n h1.n 65536 ⟨numF x.chain.length ++ x.chain, 0⟩ := by rw [← e3]; exact hw3
    refine stp ?_
    refine O.call' (WNum_ok hw3 (by omega) (by simp only [List.length_append]; omega)) (fun r h4 hr => ?_)
    obtain ⟨rfl, hw4, hf4⟩ := hr
    haveI : HGet h4 h.n _ := hf4.keep (b := h.n) inferInstance (by omega) (by omega)
    have hlt4 := hf4.n
    have e4 : putS 65536 (decide (0 ≤ x.height)) (numF x.height.toNat) ⟨numF x.chain.length ++ x.chain, 0⟩ = ⟨numF x.chain.length ++ x.chain ++ numF x.height.toNat, 0⟩ := by
      rw [decide_eq_true (by omega)]
      exact putS_fit (by simp only [List.length_append]; omega)
    have hw4 : PWs h4 h1.n h1.n 65536 ⟨numF x.chain.length ++ x.chain ++ numF x.height.toNat, 0⟩ := by rw [← e4]; exact hw4
    refine stp ?_
    refine O.call' (WNum_ok hw4 (by omega) (by simp only [List.length_append]; omega)) (fun r h5 hr => ?_)
    obtain ⟨rfl, hw5, hf5⟩ := hr
    haveI : HGet h5 h.n _ := hf5.keep (b := h.n) inferInstance (by omega) (by omega)
    have hlt5 := hf5.n
    have e5 : putS 65536 (decide (0 ≤ x.time)) (numF x.time.toNat) ⟨numF x.chain.length ++ x.chain ++ numF x.height.toNat, 0⟩ = ⟨numF x.chain.length ++ x.chain ++ numF x.height.toNat ++ numF x.time.toNat, 0⟩ := by
      rw [decide_eq_true (by omega)]
      exact putS_fit (by simp only [List.length_append]; omega)
    have hw5 : PWs h5 h1.n h1.n 65536 ⟨numF x.chain.length ++ x.chain ++ numF x.height.toNat ++ numF x.time.toNat, 0⟩ := by rw [← e5]; exact hw5
    have g5 : h5.get h.n = .cells x.cells 0 := HGet.eq
    refine stp ?_
    refine O.call' (hashes_ok (x := x) g5 (by omega)) (fun r h6 hr => ?_)
    obtain ⟨rfl, hf6⟩ := hr
    have hw6 := hw5.none hf6
    have hf06 : Fr (fun _ => False) h h6 := by
      refine Fr.trans (S := fun _ => False) (S' := fun i => h1.n ≤ i) hf1' ?_ (fun i hi h => by omega)
      exact Fr.trans (S := fun i => h1.n ≤ i) (S' := fun i => h1.n ≤ i) (hf2.mono fun _ _ h => h.elim) (hf3.trans' (hf4.trans' (hf5.trans' (hf6.mono fun _ _ h => h.elim)))) fun _ _ h => h
    generalize hB : numF x.chain.length ++ x.chain ++ numF x.height.toNat ++ numF x.time.toNat = bb at *
    have hBl : bb.length ≤ 100 := by rw [← hB]; simp only [List.length_append]; omega
    have g6 : h6.get h.n = .cells x.cells 0 := by rw [hf6.get _ (by omega) id, g5]
    have hn6 := hf6.n
    refine stp ?_
    refine zuQ_l0_rule (fun m v31 h' => ∃ (k : Nat) (c : List UInt8), k ≤ 4 ∧ m = 4 - k ∧ v31 = .int .i64 k ∧ PWs h' h1.n h1.n 65536 ⟨bb ++ c, 0⟩ ∧ Fr (fun i => h1.n ≤ i) h6 h' ∧
      c = ([x.prev, x.vals, x.next, x.app].take k).flatten) ?_ 4 ⟨0, [], by omega, rfl, rfl, by simpa using hw6, Fr.refl, rfl⟩
    rintro m v31 h' x8 x32 x33 x34 x35 x36 x37 x38 x39 ⟨k, c, hk, rfl, rfl, hw, hf, hc'⟩
    haveI : HGet h' h.n (.cells x.cells 0) := hf.keep (b := h.n) ⟨g6⟩ (by omega) (by omega)
    have hone : ∀ {l : List UInt8} {h2 : Heap}, Fr (fun i => h1.n ≤ i) h' h2 → Fr (fun i => h1.n ≤ i) h6 h2 := fun hx => hf.trans' hx
    rcases (show k = 0 ∨ k = 1 ∨ k = 2 ∨ k = 3 ∨ k = 4 by omega) with rfl | rfl | rfl | rfl | rfl
    · have hcl : c.length = 0 := by rw [hc']; simp
      refine stp ?_
      refine O.how (XOp.mkIndex1 (m := 0) 0 rfl (by omega) rfl) ?_
      refine stp ?_
      refine O.call' (WHash_ok hw l4 (by simp only [List.length_append]; omega)) (fun r h7 hr => ?_)
      obtain ⟨rfl, hw7, hf7⟩ := hr
      rw [putS_fit (by simp only [List.length_append]; omega)] at hw7
      refine stp ?_
      exact zuQ_l0_again 3 (by omega) ⟨1, c ++ x.prev, by omega, rfl, rfl, by rw [← List.append_assoc]; exact hw7, hf.trans' hf7, by rw [hc']; simp⟩
    · have hcl : c.length = 32 := by rw [hc']; simp [l4]
      refine stp ?_
      refine O.how (XOp.mkIndex1 (m := 1) 1 rfl (by omega) rfl) ?_
      refine stp ?_
      refine O.call' (WHash_ok hw l5 (by simp only [List.length_append]; omega)) (fun r h7 hr => ?_)
      obtain ⟨rfl, hw7, hf7⟩ := hr
      rw [putS_fit (by simp only [List.length_append]; omega)] at hw7
      refine stp ?_
      exact zuQ_l0_again 2 (by omega) ⟨2, c ++ x.vals, by omega, rfl, rfl, by rw [← List.append_assoc]; exact hw7, hf.trans' hf7, by rw [hc']; simp⟩
    · have hcl : c.length = 64 := by rw [hc']; simp [l4, l5]
      refine stp ?_
      refine O.how (XOp.mkIndex1 (m := 2) 2 rfl (by omega) rfl) ?_
      refine stp ?_
      refine O.call' (WHash_ok hw l6 (by simp only [List.length_append]; omega)) (fun r h7 hr => ?_)
      obtain ⟨rfl, hw7, hf7⟩ := hr
      rw [putS_fit (by simp only [List.length_append]; omega)] at hw7
      refine stp ?_
      exact zuQ_l0_again 1 (by omega) ⟨3, c ++ x.next, by omega, rfl, rfl, by rw [← List.append_assoc]; exact hw7, hf.trans' hf7, by rw [hc']; simp⟩
    · have hcl : c.length = 96 := by rw [hc']; simp [l4, l5, l6]
      refine stp ?_
      refine O.how (XOp.mkIndex1 (m := 3) 3 rfl (by omega) rfl) ?_
      refine stp ?_
      refine O.call' (WHash_ok hw l7 (by simp only [List.length_append]; omega)) (fun r h7 hr => ?_)
      obtain ⟨rfl, hw7, hf7⟩ := hr
      rw [putS_fit (by simp only [List.length_append]; omega)] at hw7
      refine stp ?_
      exact zuQ_l0_again 0 (by omega) ⟨4, c ++ x.app, by omega, rfl, rfl, by rw [← List.append_assoc]; exact hw7, hf.trans' hf7, by rw [hc']; simp⟩
    · refine stp ?_
      refine O.call' (Done_ok hw) (fun r h7 hr => ?_)
      obtain ⟨v, rfl, ho, hnew, hf7⟩ := hr
      refine stp ?_
      rw [hc] at *
      rw [if_pos rfl]
      have he : encS x = bb ++ c := by
        rw [hc', ← hB]
        simp [encS]
      rw [he]
      refine ⟨v, rfl, by simpa using ho, fun i hi => ?_, Fr.trans (S := fun _ => False) (S' := fun i => h1.n ≤ i) hf06 (hf.trans' (hf7.mono fun _ _ h => h.elim)) fun i hi h => by omega⟩
      have := hnew i hi
      have := hf.n
      omega
end Go.Proofs.YtninaabbojcdpaaGreat.A

namespace Go.Proofs.YtninaabbojcdpaaGreat.A
open Go Go.Vm
set_option maxRecDepth 10000
set_option linter.unusedVariables false
inductive OwnL (h : Heap) (size : Nat) : Value → List Value → Nat → Prop
  | own {v : Value} {c : List Value} {n : Nat} : Own h size v c n → OwnL h size v c n
  | lit {q es n : Nat} {c : List Value} : q < h.n → h.get q = .cells c es → c.length = n * size → OwnL h size (.slice (some ⟨q, 0, none⟩) n n) c n
theorem OwnL.rd {h : Heap} {size : Nat} {v : Value} {c : List Value} {n : Nat} (ho : OwnL h size v c n) : Rd h size v c n := by
  cases ho with
  | own ho => exact ho.rd
  | lit hq hg hl => exact Rd.mk hq (by rw [cellsAt_of (by rw [hg]; rfl) (by omega), List.drop_zero, List.take_of_length_le (by omega)])
theorem OwnL.keep {S : Nat → Prop} {h h' : Heap} {size : Nat} {v : Value} {c : List Value} {n : Nat} (ho : OwnL h size v c n) (hf : Fr S h h') (hs : ∀ b, ownedBy v b → ¬ S b) : OwnL h' size v c n := by
  cases ho with
  | own ho => exact .own (ho.keep hf hs)
  | lit hq hg hl => exact .lit (hf.lt hq) (by rw [hf.get _ hq (hs _ rfl), hg]) hl
section
variable {P : Program} {T : Table} {ts : List Value} {ds : List Deferred} {h : Heap} {rd : Option Nat} {v w : Value} {dst size bytes n m el q : Nat} {zero c d : List Value} {zeros : Bool} {x y : Operand} {chk : List (Option Nat × AOp × Option (Nat × Bool))} {pan : Bool} {rest : List AOper} {Q : QP} {F : Value → List Value}
end
end Go.Proofs.YtninaabbojcdpaaGreat.A

namespace Go.Proofs.YtninaabbojcdpaaGreat.A
open Go Go.Vm
set_option maxRecDepth 10000
set_option linter.unusedVariables false
structure DW (h : Heap) (lo p : Nat) (sv : Value) (bs : List UInt8) (lim : Nat) (e : Int) : Prop where
  lt : p < h.n
  le : lo ≤ p
  get : h.get p = .cells [.int .i64 lim, sv, .int .i64 e] 0
  own : Own h 1 sv (bcells bs) bs.length
  apart : ¬ ownedBy sv p
  above : ∀ i, ownedBy sv i → lo ≤ i
  small : bs.length < 1048577
structure DWs (h : Heap) (lo p lim : Nat) (st : WSt) : Prop where
  ex : ∃ sv, DW h lo p sv st.bs lim st.e
theorem DW.keep {S : Nat → Prop} {h h' : Heap} {lo p : Nat} {sv : Value} {bs : List UInt8} {lim : Nat} {e : Int} (hp : DW h lo p sv bs lim e) (hf : Fr S h h') (hs : ¬ S p) (hb : ∀ i, ownedBy sv i → ¬ S i) : DW h' lo p sv bs lim e :=
  ⟨hf.lt hp.lt, hp.le, by rw [hf.get p hp.lt hs, hp.get], hp.own.keep hf hb, hp.apart, hp.above, hp.small⟩
theorem DWs.keep {S : Nat → Prop} {h h' : Heap} {lo p lim : Nat} {st : WSt} (hp : DWs h lo p lim st) (hf : Fr S h h') (hs : ∀ i, S i → i < lo) : DWs h' lo p lim st :=
  let ⟨sv, hw⟩ := hp.ex
  ⟨sv, hw.keep hf (fun h => by have := hs _ h; have := hw.le; omega) fun i hi h => by have := hs _ h; have := hw.above i hi; omega⟩
theorem DWs.none {h h' : Heap} {lo p lim : Nat} {st : WSt} (hp : DWs h lo p lim st) (hf : Fr (fun _ => False) h h') : DWs h' lo p lim st := hp.keep hf fun _ h => h.elim
theorem DWs.lo_le {h : Heap} {lo p lim : Nat} {st : WSt} (hp : DWs h lo p lim st) : lo ≤ h.n := let ⟨_, hw⟩ := hp.ex; Nat.le_of_lt (Nat.lt_of_le_of_lt hw.le hw.lt)
end Go.Proofs.YtninaabbojcdpaaGreat.A

namespace Go.Proofs.YtninaabbojcdpaaGreat.A
open Go Go.Vm
set_option maxRecDepth 10000
set_option linter.unusedVariables false
end Go.Proofs.YtninaabbojcdpaaGreat.A

namespace Go.Proofs.YtninaabbojcdpaaGreat.A
open Go Go.Vm
set_option maxRecDepth 10000
set_option linter.unusedVariables false
abbrev z4 : List Value := [.int .u8 0, .int .u8 0, .int .u8 0, .int .u8 0]
abbrev zb4 : List UInt8 := [0, 0, 0, 0]
theorem four {l : List UInt8} (h : l.length = 4) : ∃ a b c d, l = [a, b, c, d] := by
  match l, h with
  | [a, b, c, d], _ => exact ⟨a, b, c, d, rfl⟩
abbrev k4 (a b c d : UInt8) : List Value := [.int .u8 a.toNat, .int .u8 b.toNat, .int .u8 c.toNat, .int .u8 d.toNat]
theorem bcells4 (a b c d : UInt8) : bcells [a, b, c, d] = [.int .u8 a.toNat, .int .u8 b.toNat, .int .u8 c.toNat, .int .u8 d.toNat] := rfl
theorem Key11_ok {h : Heap} {v : Value} {l : List UInt8} (hr : Rd h 1 v (bcells l) l.length) (hl : l.length = 4) :
    Runs Tryz.prog T0 (.fn fn_zycQ) [v] h (fun r h' => r = .agg ⟨bcells l⟩ ∧ Fr (fun _ => False) h h') (fun _ _ => False) := by
  obtain ⟨a, cap, rfl, hlen, hc⟩ := hr
  obtain ⟨b, o, sp, rfl, hb, hcc⟩ := hc (by omega)
  rw [Nat.mul_one, hl] at hcc
  obtain ⟨a1, a2, a3, a4, rfl⟩ := four hl
  rw [bcells4] at hcc ⊢
  refine zycQ_runs ?_
  refine stp ?_
  refine O.how (XOp.mkArrayAt (by omega)) ?_
  haveI : Cells (h.push (.cells z4 0)) b o 4 [.int .u8 a1.toNat, .int .u8 a2.toNat, .int .u8 a3.toNat, .int .u8 a4.toNat] := ⟨by rw [cellsAt_keep (S := fun _ => False) Fr.refl.push hb id]; exact hcc⟩
  refine stp ?_
  exact ⟨rfl, Fr.refl.push⟩
theorem takeK_ok {h : Heap} {p : Nat} {sv : Value} {bs : List UInt8} {pl : Nat} {fa a0 : Int} (hr : PR h p sv bs pl 0 fa) :
    Runs Tryz.prog T0 (.fn fn_zzdQ) [.pointer (some ⟨p, 0, none⟩), .int .i64 4, .int .i64 a0, .func (.func fn_zycQ) ⟨[]⟩ ⟨[]⟩] h
      (fun r h' => pl + 4 ≤ bs.length ∧ r = .agg ⟨bcells ((bs.drop pl).take 4)⟩ ∧ PR h' p sv bs (pl + 4) 0 fa ∧ Fr (fun i => i = p) h h')
      (fun c h' => bs.length < pl + 4 ∧ c = thrown 6 a0 ∧ PR h' p sv bs pl 0 fa ∧ Fr (fun i => i = p) h h') := by
  have hr' := hr.none (Fr.refl.push (o := .cells z4 0))
  have hr0 := hr
  obtain ⟨hle, hsm, hp, hget, hown, hnot⟩ := hr
  obtain ⟨a, cap, rfl, hlen, _⟩ := hown.rd
  haveI : HGet h p _ := ⟨hget⟩
  haveI : BLt p h := ⟨hp⟩
  refine zzdQ_runs ?_
  refine stp ?_
  refine D.callX must_ok (fun v h' hv => rfl) (fun v h' hv => ?_) (fun c h' hx => ⟨rfl, ?_⟩)
  · obtain ⟨hle2, rfl⟩ := hv
    have hle2 := of_decide_eq_true hle2
    refine stp ?_
    have hp2 := hr'.turn (pl' := pl + 4) (e' := 0) (fa' := fa) (by omega)
    refine D.slice pl (pl + 4) (by omega) hp2.own (by omega) (by omega) (by omega) (by omega) (fun v' hbl hrd => ?_)
    rw [Nat.mul_one, Nat.mul_one, bcells_drop, bcells_take, Nat.add_sub_cancel_left] at hrd
    have hl : ((bs.drop pl).take 4).length = 4 := by rw [List.length_take, List.length_drop]; omega
    have hf0 : Fr (fun i => i = p) h ((h.push (.cells z4 0)).set p (.cells [.slice a bs.length cap, .int .i64 ↑(pl + 4), .int .i64 0, .int .i64 fa, .bool true] 0)) := Fr.refl.push.set fun _ => rfl
    generalize hL : (bs.drop pl).take 4 = L at hl hrd ⊢
    refine D.callX (Key11_ok (l := L) (by rw [hl]; exact hrd) hl) (fun _ _ _ => rfl) (fun r h2 hr => ?_) (fun _ _ hx => hx.elim)
    obtain ⟨rfl, hf⟩ := hr
    obtain ⟨a1, a2, a3, a4, rfl⟩ := four hl
    rw [bcells4]
    haveI : HGet h2 h.n _ := hf.keep (b := h.n) (HGet.set (k := ⟨by omega⟩) (g := HGet.new)) (by simp) id
    refine stp ?_
    refine ⟨by omega, rfl, (hp2.none hf).keep (S := fun i => i = h.n) (Fr.refl.set fun _ => rfl) (by omega) fun i hi hn => ?_, ?_⟩
    · have := hown.lt hi
      omega
    · refine Fr.set (Fr.trans (S := fun i => i = p) (S' := fun _ => False) hf0 hf fun _ _ h => h.elim) fun hlt => ?_
      omega
  · obtain ⟨hlt, rfl, rfl⟩ := hx
    have hlt := of_decide_eq_false hlt
    refine stp ?_
    exact ⟨by omega, rfl, hr', Fr.refl.push⟩
theorem Key1_ok {h : Heap} {p a : Nat} {sv : Value} {bs : List UInt8} {pl : Nat} (hr : PR h p sv bs pl 0 0) [ha : HGet h a (.cells [.pointer (some ⟨p, 0, none⟩)] 0)] (ha' : a < h.n) :
    Runs Tryz.prog T0 (.fn fn_zxcQ) [.int .i64 pl, .pointer (some ⟨a, 0, none⟩)] h
      (fun r h' => ∃ l pl', partS 4 bs pl = .ok (l, pl') ∧ (r = .agg ⟨bcells l⟩ ∧ l.length = 4) ∧ PR h' p sv bs pl' 0 0 ∧ Fr (fun i => i = p) h h')
      (fun c h' => ∃ e pl', partS 4 bs pl = .error e ∧ e ≠ 0 ∧ c = thrown e pl ∧ PR h' p sv bs pl' 0 0 ∧ Fr (fun i => i = p) h h') := by
  have hp := hr.lt
  have hr' := hr.none (Fr.refl.push (o := .cells z4 0))
  haveI : BLt a h := ⟨ha'⟩
  refine zxcQ_runs ?_
  refine stp ?_
  refine O.callX (takeK_ok hr') (fun r h1 hr1 => ?_) (fun c h1 hx => ?_)
  · obtain ⟨hle, rfl, hp1, hf1⟩ := hr1
    have hl : ((bs.drop pl).take 4).length = 4 := by rw [List.length_take, List.length_drop]; omega
    generalize hL : (bs.drop pl).take 4 = L at hl ⊢
    obtain ⟨a1, a2, a3, a4, rfl⟩ := four hl
    rw [bcells4]
    haveI : HGet h1 h.n _ := hf1.keep (b := h.n) HGet.new (by simp) (by omega)
    refine stp ?_
    refine ⟨[a1, a2, a3, a4], pl + 4, by unfold partS; rw [if_neg (by omega), hL], ⟨rfl, rfl⟩, hp1.keep (S := fun i => i = h.n) (Fr.refl.set fun _ => rfl) (by omega) fun i hi hn => ?_, ?_⟩
    · have := hr.own.lt hi
      omega
    · exact Fr.set (Fr.trans (S := fun i => i = p) Fr.refl.push hf1 fun _ _ h => h) fun hlt => by omega
  · obtain ⟨hlt, rfl, hp1, hf1⟩ := hx
    refine stp ?_
    exact ⟨6, pl, by unfold partS; rw [if_pos (by omega)], by omega, rfl, hp1, Fr.trans (S := fun i => i = p) Fr.refl.push hf1 fun _ _ h => h⟩
theorem readsK_ok {h : Heap} {p : Nat} {sv : Value} {bs : List UInt8} {pl : Nat} {fid : FuncId} {first captured : List Value} {S : Nat → Except Int (List UInt8 × Nat)} (hr : PR h p sv bs pl 0 0)
    (hm : Runs Tryz.prog T0 (.fn fid) (first ++ [.int .i64 pl] ++ captured) (h.push (.cells z4 0)) (fun r h' => ∃ l pl', S pl = .ok (l, pl') ∧ (r = .agg ⟨bcells l⟩ ∧ l.length = 4) ∧ PR h' p sv bs pl' 0 0 ∧ Fr (fun i => i = p) (h.push (.cells z4 0)) h')
      (fun c h' => ∃ e pl', S pl = .error e ∧ e ≠ 0 ∧ c = thrown e pl ∧ PR h' p sv bs pl' 0 0 ∧ Fr (fun i => i = p) (h.push (.cells z4 0)) h')) :
    Runs Tryz.prog T0 (.fn fn_zudQ) [.pointer (some ⟨p, 0, none⟩), .func (.func fid) ⟨first⟩ ⟨captured⟩] h (Reads h p sv bs (rd S zb4 ⟨pl, 0, 0⟩) fun l r h' => r = .agg ⟨bcells l⟩ ∧ l.length = 4) (fun _ _ => False) := by
  haveI : HGet h p _ := ⟨hr.get⟩
  haveI : BLt p h := ⟨hr.lt⟩
  have hp := hr.lt
  refine zudQ_runs ?_
  refine stp ?_
  refine O.callX hm (fun r h1 hr1 => ?_) (fun c h1 hx => ?_)
  · obtain ⟨l, pl', hS, ⟨rfl, hl⟩, hp1, hf⟩ := hr1
    obtain ⟨a1, a2, a3, a4, rfl⟩ := four hl
    rw [bcells4]
    haveI : HGet h1 h.n _ := hf.keep (b := h.n) HGet.new (by simp) (by omega)
    refine stp ?_
    refine caught_none.mono (fun u' h' hu => ?_) (fun _ _ _ hx => hx.elim)
    obtain ⟨rfl, rfl⟩ := hu
    refine L.nil (rd_ok hS ?_ ⟨rfl, rfl⟩ (hp1.keep (S := fun i => i = h.n) (Fr.refl.set fun _ => rfl) (by omega) fun i hi hn => ?_))
    · exact Fr.set (Fr.trans (S := fun i => i = p) Fr.refl.push hf fun _ _ h => h) fun hlt => by omega
    · have := hr.own.lt hi
      omega
  · obtain ⟨e, pl', hS, he, rfl, hp1, hf⟩ := hx
    refine stp ?_
    refine (caught_ok hp1).mono (fun u' h' hu => ?_) (fun _ _ _ hx => hx.elim)
    obtain ⟨hs, hp2, hf2⟩ := hu
    rw [hs]
    haveI : HGet h' h.n _ := (hf.trans' hf2).keep (b := h.n) HGet.new (by simp) (by omega)
    exact L.nil (rd_err hS he (Fr.trans (S := fun i => i = p) Fr.refl.push (hf.trans' hf2) fun _ _ h => h) ⟨rfl, rfl⟩ hp2)
theorem readsK_bad {h : Heap} {p : Nat} {sv : Value} {bs : List UInt8} {pl : Nat} {e fa : Int} {f : Value} (hr : PR h p sv bs pl e fa) (he : e ≠ 0) :
    Runs Tryz.prog T0 (.fn fn_zudQ) [.pointer (some ⟨p, 0, none⟩), f] h (fun r h' => r = .agg ⟨z4⟩ ∧ Fr (fun _ => False) h h') (fun _ _ => False) := by
  haveI : HGet h p _ := ⟨hr.get⟩
  haveI : BLt p h := ⟨hr.lt⟩
  refine zudQ_runs ?_
  refine stp ?_
  refine C.ifB (fun h1 => ?_) (fun h1 => ?_)
  · refine stp ?_
    exact ⟨rfl, Fr.refl.push⟩
  · exfalso; simp at h1; exact he h1
theorem Key_run {h : Heap} {p : Nat} {sv : Value} {bs : List UInt8} {st : RSt} (hp : PRs h p sv bs st) :
    Runs Tryz.prog T0 (.fn fn_zwcQ) [.pointer (some ⟨p, 0, none⟩)] h (Reads h p sv bs (rd (partS 4 bs) zb4 st) fun l r _ => r = .agg ⟨bcells l⟩ ∧ l.length = 4) (fun _ _ => False) := by
  obtain ⟨st1, e, fa⟩ := st
  obtain ⟨pl, h1, h2⟩ := hp.ex
  have hlt := h2.lt
  refine zwcQ_runs ?_
  refine stp ?_
  have hf0 : Fr (fun i => i = p) h ((h.push (AObj.cells [Value.pointer (some ⟨p, 0, none⟩)] 0)).push (AObj.cells z4 0)) := Fr.refl.push.push
  by_cases he : e = 0
  · subst he
    obtain ⟨rfl, h3⟩ := h1 rfl
    have h3 : fa = 0 := h3
    subst h3
    refine O.call' (readsK_ok (S := partS 4 bs) (h2.none Fr.refl.push.push) (Key1_ok (h2.none Fr.refl.push.push.push) (by simp; omega))) (fun r h' hq => ?_)
    obtain ⟨hf, ⟨rfl, hl⟩, hp'⟩ := hq
    generalize (rd (partS 4 bs) zb4 ⟨pl, 0, 0⟩) = q at *
    obtain ⟨L, st2⟩ := q
    simp only at hl hp' ⊢
    obtain ⟨a1, a2, a3, a4, rfl⟩ := four hl
    rw [bcells4]
    haveI : HGet h' (h.push (AObj.cells [Value.pointer (some ⟨p, 0, none⟩)] 0)).n _ := hf.keep (b := (h.push (AObj.cells [Value.pointer (some ⟨p, 0, none⟩)] 0)).n) HGet.new (by simp) (by simp; omega)
    refine stp ?_
    refine ⟨Fr.set (hf0.trans' hf) fun hlt => by simp at hlt; omega, ⟨rfl, rfl⟩, hp'.keep (S := fun i => i = (h.push (AObj.cells [Value.pointer (some ⟨p, 0, none⟩)] 0)).n) (Fr.refl.set fun _ => rfl) (by simp; omega) fun i hi hn => ?_⟩
    have := h2.own.lt hi
    simp at hn; omega
  · refine O.call' (readsK_bad (h2.none Fr.refl.push.push) he) (fun r h' hq => ?_)
    obtain ⟨rfl, hf⟩ := hq
    haveI : HGet h' (h.push (AObj.cells [Value.pointer (some ⟨p, 0, none⟩)] 0)).n _ := hf.keep (b := (h.push (AObj.cells [Value.pointer (some ⟨p, 0, none⟩)] 0)).n) HGet.new (by simp) id
    refine stp ?_
    refine rd_bad he (Fr.set (hf0.trans' (hf.mono fun _ _ h => h.elim)) fun hlt => by simp at hlt; omega) ⟨rfl, rfl⟩ (((hp.none Fr.refl.push.push).none hf).keep (S := fun i => i = (h.push (AObj.cells [Value.pointer (some ⟨p, 0, none⟩)] 0)).n) (Fr.refl.set fun _ => rfl) (by simp; omega) fun i hi hn => ?_)
    have := h2.own.lt hi
    simp at hn; omega
end Go.Proofs.YtninaabbojcdpaaGreat.A
