/- Contracts of functions, over the machine. -/
import Derived.Test.YtninaabbojcdpaaGreatQMsgEncodes1
import Derived.Test.YtninaabbojcdpaaGreatVK
import Derived.Test.YtninaabbojcdpaaGreatVJ
noncomputable section
set_option maxRecDepth 100000
set_option linter.unusedVariables false
namespace Go.Proofs.YtninaabbojcdpaaGreat.A
open Go Go.Vm
abbrev fn_zxcQ : FuncId := 135
def zxcQ_c : ACode :=
 (.seq (.region [
 o1 3 (.box 132 (tm 1)),
 o1 4 (.mov k0)]) (.seq (.regionD [
 o2 6 (.mov (tm 0)),
 o2 7 (.nilCheck (tm 6)),
 o2 8 (.fieldAddr 4 (tm 7)),
 o2 9 (.load none (tm 8)),
 o2 10 (.mov (tm 9)),
 o4 11 (.mov (tm 0)) 10,
 o4 12 (.nilCheck (tm 11)) 10,
 o4 13 (.fieldAddr 0 (tm 12)) 10,
 o4 14 (.sliceArr 4 1 (tm 13) none none) 10,
 o4 15 (.fieldAddr 0 (tm 3)) 10,
 o4 16 (.sliceArr 4 1 (tm 15) none none) 10,
 ⟨some 17, .callV (.func 158) [(tm 14), (tm 16)], some (10, true), [], true⟩,
 ⟨some 18, .bin .geq (so (.binOp .geq 3 (tm 17) k0 3) 4) (tm 17) k0, some (10, true), [], true⟩,
 o2 19 (.pick (tm 10) (tm 18) (.const (.bool false))),
 o2 5 (.mov (tm 19))]) (.seq (.region [
 o1 20 (.mov (tm 0)),
 o1 21 (.mov (tm 0)),
 o1 22 (.fieldAddr 0 (tm 3)),
 o1 23 (.load (some 4) (tm 22)),
 o1 24 (.nilCheck (tm 20)),
 o1 25 (.fieldAddr 0 (tm 24)),
 o3 (.store 4 (tm 25) (tm 23)),
 o1 26 (.nilCheck (tm 21)),
 o1 27 (.fieldAddr 4 (tm 26)),
 o3 (.store 1 (tm 27) (.const (.bool true)))]) (.seq (.block 0 (.seq (.region [
 o1 29 (.mov (tm 5)),
 o1 28 (.mov (tm 29))]) (.cond (tm 28)
 (.seq (.region [
 o1 4 (.mov (.const (.int .i64 9)))]) .ret)
 (.seq (.regionD [
 o1 31 (.fieldAddr 4 (tm 3)),
 o1 32 (.load none (tm 31)),
 o1 33 (.mov (tm 0)),
 o1 34 (.nilCheck (tm 33)),
 o1 35 (.fieldAddr 5 (tm 34)),
 o1 36 (.load none (tm 35)),
 o2 37 (.bin .lss (so (.binOp .lss 3 (tm 32) (tm 36) 3) 4) (tm 32) (tm 36)),
 o2 38 (.mov (tm 37)),
 o5 39 (.fieldAddr 4 (tm 3)) 38,
 o5 40 (.load none (tm 39)) 38,
 o5 41 (.mov (tm 0)) 38,
 o5 42 (.nilCheck (tm 41)) 38,
 o5 43 (.fieldAddr 6 (tm 42)) 38,
 o5 44 (.load none (tm 43)) 38,
 ⟨some 45, .bin .gtr (so (.binOp .gtr 3 (tm 40) (tm 44) 3) 4) (tm 40) (tm 44), some (38, false), [], true⟩,
 o2 46 (.pick (tm 38) (.const (.bool true)) (tm 45)),
 o2 30 (.mov (tm 46))]) (.cond (tm 30)
 (.seq (.region [
 o1 4 (.mov (.const (.int .i64 3)))]) .ret)
 .skip))))) (.seq (.region [
 o1 4 (.mov k0)]) .ret)))))
def zxcQ : AFunc := ⟨47, [(4, none)], zxcQ_c, none⟩
theorem zxcQ_t0 : tableOf Tryz.prog 135 = some zxcQ := by kernel_rfl
theorem zxcQ_t : T0 135 = some zxcQ := withKept_t rfl (withTrue_t rfl zxcQ_t0)
theorem zxcQ_runs {v0 v1 : Value} {h : Heap} {R : RP} {X : XP} (k : RunC Tryz.prog T0 zxcQ_c ⟨[v0, v1, U, U, U, U, U, U, U, U, U, U, U, U, U, U, U, U, U, U, U, U, U, U, U, U, U, U, U, U, U, U, U, U, U, U, U, U, U, U, U, U, U, U, U, U, U], [], h, none⟩ (bodyQ Tryz.prog T0 [(4, none)] R X)) :
 Runs Tryz.prog T0 (.fn 135) [v0, v1] h R X := Runs.fn zxcQ_t rfl k
abbrev fn_zlQ : FuncId := 136
def zlQ_c : ACode :=
 (.seq (.region [
 o1 0 (.mov (.const .nilFunc))]) (.seq (.region [
 o1 1 (.alloc 3 [(.int .i64 0)]),
 o3 (.store 1 (tm 1) (.const (.int .i64 (-1))))]) (.seq (.region [
 o1 2 (.mkFunc (.func 159) [] [(tm 1)]),
 o1 0 (.mov (tm 2))]) .ret)))
def zlQ : AFunc := ⟨3, [(0, none)], zlQ_c, none⟩
theorem zlQ_t0 : tableOf Tryz.prog 136 = some zlQ := by kernel_rfl
theorem zlQ_t : T0 136 = some zlQ := withKept_t rfl (withTrue_t rfl zlQ_t0)
theorem zlQ_runs {v : Value} {h : Heap} {R : RP} {X : XP} (k : RunC Tryz.prog T0 zlQ_c ⟨[undef, U, U], [], h, none⟩ (bodyQ Tryz.prog T0 [(0, none)] R X)) :
 Runs Tryz.prog T0 (.fn 136) [] h R X := Runs.fn zlQ_t rfl k
abbrev fn_zidQ : FuncId := 137
def zidQ_l0 : ACode :=
 (.seq (.region [
 o1 6 (.bin .lss (so (.binOp .lss 3 (tm 5) (.const (.int .i64 8)) 3) 4) (tm 5) (.const (.int .i64 8)))]) (.seq (.cond (tm 6)
 .skip
 (.exit 0)) (.seq (.block 1 (.seq (.region [
 o1 7 (.mov (tm 5)),
 o1 4 (.mov (tm 7))]) (.region [
 o1 8 (.mov (tm 4)),
 o1 9 (.bin .sub (so (.binOp .sub 3 (.const (.int .i64 7)) (tm 8) 3) 3) (.const (.int .i64 7)) (tm 8)),
 o1 10 (.mov (tm 0)),
 o1 11 (.mov (tm 4)),
 o1 12 (.bin .mul (so (.binOp .mul 3 (.const (.int .i64 8)) (tm 11) 3) 3) (.const (.int .i64 8)) (tm 11)),
 o1 13 (.bin .shr (so (.binOp .shr 124 (tm 10) (tm 12) 3) 124) (tm 10) (tm 12)),
 o1 14 (.conv .u8 (so (.convert 124 5 (tm 13)) 5) (tm 13)),
 o1 15 (.indexArr 8 1 (tm 3) (tm 9)),
 o3 (.store 1 (tm 15) (tm 14))]))) (.region [
 o1 16 (.bin .add (so (.binOp .add 3 (tm 5) (.const (.int .i64 1)) 3) 3) (tm 5) (.const (.int .i64 1))),
 o1 5 (.mov (tm 16))]))))
def zidQ_c : ACode :=
 (.seq (.region [
 o1 2 (.alloc 181 [(.int .u8 0), (.int .u8 0), (.int .u8 0), (.int .u8 0), (.int .u8 0), (.int .u8 0), (.int .u8 0), (.int .u8 0)])]) (.seq (.region [
 o1 3 (.alloc 181 [(.int .u8 0), (.int .u8 0), (.int .u8 0), (.int .u8 0), (.int .u8 0), (.int .u8 0), (.int .u8 0), (.int .u8 0)])]) (.seq (.seq (.region [
 o1 5 (.mov k0)]) (.block 0 (.loop zidQ_l0))) (.seq (.region [
 o1 17 (.load (some 8) (tm 3)),
 o3 (.store 8 (tm 2) (tm 17))]) .ret))))
def zidQ : AFunc := ⟨18, [(2, some (some 8))], zidQ_c, none⟩
theorem zidQ_t0 : tableOf Tryz.prog 137 = some zidQ := by kernel_rfl
theorem zidQ_t : T0 137 = some zidQ := withKept_t rfl (withTrue_t rfl zidQ_t0)
theorem zidQ_runs {v0 : Value} {h : Heap} {R : RP} {X : XP} (k : RunC Tryz.prog T0 zidQ_c ⟨[v0, U, U, U, U, U, U, U, U, U, U, U, U, U, U, U, U, U], [], h, none⟩ (bodyQ Tryz.prog T0 [(2, some (some 8))] R X)) :
 Runs Tryz.prog T0 (.fn 137) [v0] h R X := Runs.fn zidQ_t rfl k
def zidQ_l0_J (f0 f1 f2 f3 f17 : Value) (ds : List Deferred) (rd : Option Nat) (I : Nat → Value → Heap → Prop) (m : Nat) (s : St) : Prop := ∃ (v5 : Value), ∃ h : Heap, ∃ (x4 x6 x7 x8 x9 x10 x11 x12 x13 x14 x15 x16 : Value), s = ⟨[f0, f1, f2, f3, x4, v5, x6, x7, x8, x9, x10, x11, x12, x13, x14, x15, x16, f17], ds, h, rd⟩ ∧ I m v5 h
theorem zidQ_l0_rule {f0 f1 f2 f3 f17 : Value} {ds : List Deferred} {rd : Option Nat} {Q : QP} (I : Nat → Value → Heap → Prop) (hb : ∀ (m : Nat) (v5 : Value) (h : Heap) (x4 x6 x7 x8 x9 x10 x11 x12 x13 x14 x15 x16 : Value) , I m v5 h → RunC Tryz.prog T0 zidQ_l0 ⟨[f0, f1, f2, f3, x4, v5, x6, x7, x8, x9, x10, x11, x12, x13, x14, x15, x16, f17], ds, h, rd⟩ (loopQ (zidQ_l0_J f0 f1 f2 f3 f17 ds rd I) m Q))
 (m : Nat) {v5 : Value} {h : Heap} {x4 x6 x7 x8 x9 x10 x11 x12 x13 x14 x15 x16 : Value} (hi : I m v5 h) : RunC Tryz.prog T0 (.loop zidQ_l0) ⟨[f0, f1, f2, f3, x4, v5, x6, x7, x8, x9, x10, x11, x12, x13, x14, x15, x16, f17], ds, h, rd⟩ Q :=
 RunC.loopJ (zidQ_l0_J f0 f1 f2 f3 f17 ds rd I) (fun m s hj => by obtain ⟨v5, h, x4, x6, x7, x8, x9, x10, x11, x12, x13, x14, x15, x16, rfl, hi⟩ := hj; exact hb m v5 h x4 x6 x7 x8 x9 x10 x11 x12 x13 x14 x15 x16 hi) m _ ⟨_, h, _, _, _, _, _, _, _, _, _, _, _, _, rfl, hi⟩
theorem zidQ_l0_again {f0 f1 f2 f3 f17 : Value} {ds : List Deferred} {rd : Option Nat} {Q : QP} {I : Nat → Value → Heap → Prop} {m : Nat} (m' : Nat) {v5 : Value} {h : Heap} {x4 x6 x7 x8 x9 x10 x11 x12 x13 x14 x15 x16 : Value} (hm : m' < m) (hi : I m' v5 h) : loopQ (zidQ_l0_J f0 f1 f2 f3 f17 ds rd I) m Q .normal ⟨[f0, f1, f2, f3, x4, v5, x6, x7, x8, x9, x10, x11, x12, x13, x14, x15, x16, f17], ds, h, rd⟩ :=
 loopQ.again m' hm ⟨_, h, _, _, _, _, _, _, _, _, _, _, _, _, rfl, hi⟩
abbrev fn_ztcQ : FuncId := 138
def ztcQ_l0 : ACode :=
 (.seq (.region [
 o1 12 (.bin .lss (so (.binOp .lss 3 (tm 11) (tm 10) 3) 0) (tm 11) (tm 10))]) (.seq (.cond (tm 12)
 .skip
 (.exit 0)) (.seq (.block 1 (.seq (.region [
 o1 13 (.indexSl 1 (tm 9) (tm 11)),
 o1 14 (.load none (tm 13)),
 o1 5 (.mov (tm 14))]) (.seq (.region [
 o1 15 (.mov (tm 3)),
 o1 16 (.mov (tm 5)),
 o1 17 (.lenSl (tm 16)),
 o1 18 (.bin .add (so (.binOp .add 3 (tm 15) (tm 17) 3) 3) (tm 15) (tm 17)),
 o1 3 (.mov (tm 18))]) (.seq (.region [
 o1 19 (.mov (tm 3)),
 o1 20 (.bin .lss (so (.binOp .lss 3 (tm 19) k0 3) 4) (tm 19) k0)]) (.cond (tm 20)
 (.region [
 o1 21 (.mkIface 9 (.const (.string ⟨⟨[108, 101, 110, 32, 111, 117, 116, 32, 111, 102, 32, 114, 97, 110, 103, 101]⟩⟩))),
 o3 (.panic (tm 21))])
 .skip))))) (.region [
 o1 22 (.bin .add (so (.binOp .add 3 (tm 11) (.const (.int .i64 1)) 3) 3) (tm 11) (.const (.int .i64 1))),
 o1 11 (.mov (tm 22))]))))
def ztcQ_l1 : ACode :=
 (.seq (.region [
 o1 28 (.bin .lss (so (.binOp .lss 3 (tm 27) (tm 26) 3) 0) (tm 27) (tm 26))]) (.seq (.cond (tm 28)
 .skip
 (.exit 2)) (.seq (.block 3 (.seq (.region [
 o1 29 (.indexSl 1 (tm 25) (tm 27)),
 o1 30 (.load none (tm 29)),
 o1 8 (.mov (tm 30))]) (.region [
 o1 31 (.mov (tm 6)),
 o1 32 (.mov (tm 8)),
 o1 33 (.append 5 1 1 [(.int .u8 0)] false (tm 31) (tm 32)),
 o1 6 (.mov (tm 33))]))) (.region [
 o1 34 (.bin .add (so (.binOp .add 3 (tm 27) (.const (.int .i64 1)) 3) 3) (tm 27) (.const (.int .i64 1))),
 o1 27 (.mov (tm 34))]))))
def ztcQ_c : ACode :=
 (.seq (.region [
 o1 2 (.mov (.const (.slice none 0 0)))]) (.seq (.region [
 o1 3 (.mov k0)]) (.seq (.seq (.region [
 o1 9 (.mov (tm 0)),
 o1 10 (.lenSl (tm 9)),
 o1 11 (.mov k0)]) (.block 0 (.loop ztcQ_l0))) (.seq (.region [
 o1 23 (.mov (tm 3)),
 o1 24 (.callV (.func 160) [(.const (.slice none 0 0)), (tm 23)]),
 o1 6 (.mov (tm 24))]) (.seq (.seq (.region [
 o1 25 (.mov (tm 0)),
 o1 26 (.lenSl (tm 25)),
 o1 27 (.mov k0)]) (.block 2 (.loop ztcQ_l1))) (.seq (.region [
 o1 35 (.mov (tm 6)),
 o1 2 (.mov (tm 35))]) .ret))))))
def ztcQ : AFunc := ⟨36, [(2, none)], ztcQ_c, none⟩
theorem ztcQ_t0 : tableOf Tryz.prog 138 = some ztcQ := by kernel_rfl
theorem ztcQ_t : T0 138 = some ztcQ := withKept_t rfl (withTrue_t rfl ztcQ_t0)
theorem ztcQ_runs {v0 : Value} {h : Heap} {R : RP} {X : XP} (k : RunC Tryz.prog T0 ztcQ_c ⟨[v0, U, U, U, U, U, U, U, U, U, U, U, U, U, U, U, U, U, U, U, U, U, U, U, U, U, U, U, U, U, U, U, U, U, U, U], [], h, none⟩ (bodyQ Tryz.prog T0 [(2, none)] R X)) :
 Runs Tryz.prog T0 (.fn 138) [v0] h R X := Runs.fn ztcQ_t rfl k
def ztcQ_l0_J (f0 f1 f2 f4 f6 f7 f8 f9 f10 f23 f24 f25 f26 f27 f28 f29 f30 f31 f32 f33 f34 f35 : Value) (ds : List Deferred) (rd : Option Nat) (I : Nat → Value → Value → Heap → Prop) (m : Nat) (s : St) : Prop := ∃ (v3 v11 : Value), ∃ h : Heap, ∃ (x5 x12 x13 x14 x15 x16 x17 x18 x19 x20 x21 x22 : Value), s = ⟨[f0, f1, f2, v3, f4, x5, f6, f7, f8, f9, f10, v11, x12, x13, x14, x15, x16, x17, x18, x19, x20, x21, x22, f23, f24, f25, f26, f27, f28, f29, f30, f31, f32, f33, f34, f35], ds, h, rd⟩ ∧ I m v3 v11 h
theorem ztcQ_l0_rule {f0 f1 f2 f4 f6 f7 f8 f9 f10 f23 f24 f25 f26 f27 f28 f29 f30 f31 f32 f33 f34 f35 : Value} {ds : List Deferred} {rd : Option Nat} {Q : QP} (I : Nat → Value → Value → Heap → Prop) (hb : ∀ (m : Nat) (v3 v11 : Value) (h : Heap) (x5 x12 x13 x14 x15 x16 x17 x18 x19 x20 x21 x22 : Value) , I m v3 v11 h → RunC Tryz.prog T0 ztcQ_l0 ⟨[f0, f1, f2, v3, f4, x5, f6, f7, f8, f9, f10, v11, x12, x13, x14, x15, x16, x17, x18, x19, x20, x21, x22, f23, f24, f25, f26, f27, f28, f29, f30, f31, f32, f33, f34, f35], ds, h, rd⟩ (loopQ (ztcQ_l0_J f0 f1 f2 f4 f6 f7 f8 f9 f10 f23 f24 f25 f26 f27 f28 f29 f30 f31 f32 f33 f34 f35 ds rd I) m Q))
 (m : Nat) {v3 v11 : Value} {h : Heap} {x5 x12 x13 x14 x15 x16 x17 x18 x19 x20 x21 x22 : Value} (hi : I m v3 v11 h) : RunC Tryz.prog T0 (.loop ztcQ_l0) ⟨[f0, f1, f2, v3, f4, x5, f6, f7, f8, f9, f10, v11, x12, x13, x14, x15, x16, x17, x18, x19, x20, x21, x22, f23, f24, f25, f26, f27, f28, f29, f30, f31, f32, f33, f34, f35], ds, h, rd⟩ Q :=
 RunC.loopJ (ztcQ_l0_J f0 f1 f2 f4 f6 f7 f8 f9 f10 f23 f24 f25 f26 f27 f28 f29 f30 f31 f32 f33 f34 f35 ds rd I) (fun m s hj => by obtain ⟨v3, v11, h, x5, x12, x13, x14, x15, x16, x17, x18, x19, x20, x21, x22, rfl, hi⟩ := hj; exact hb m v3 v11 h x5 x12 x13 x14 x15 x16 x17 x18 x19 x20 x21 x22 hi) m _ ⟨_, _, h, _, _, _, _, _, _, _, _, _, _, _, _, rfl, hi⟩
theorem ztcQ_l0_again {f0 f1 f2 f4 f6 f7 f8 f9 f10 f23 f24 f25 f26 f27 f28 f29 f30 f31 f32 f33 f34 f35 : Value} {ds : List Deferred} {rd : Option Nat} {Q : QP} {I : Nat → Value → Value → Heap → Prop} {m : Nat} (m' : Nat) {v3 v11 : Value} {h : Heap} {x5 x12 x13 x14 x15 x16 x17 x18 x19 x20 x21 x22 : Value} (hm : m' < m) (hi : I m' v3 v11 h) : loopQ (ztcQ_l0_J f0 f1 f2 f4 f6 f7 f8 f9 f10 f23 f24 f25 f26 f27 f28 f29 f30 f31 f32 f33 f34 f35 ds rd I) m Q .normal ⟨[f0, f1, f2, v3, f4, x5, f6, f7, f8, f9, f10, v11, x12, x13, x14, x15, x16, x17, x18, x19, x20, x21, x22, f23, f24, f25, f26, f27, f28, f29, f30, f31, f32, f33, f34, f35], ds, h, rd⟩ :=
 loopQ.again m' hm ⟨_, _, h, _, _, _, _, _, _, _, _, _, _, _, _, rfl, hi⟩
def ztcQ_l1_J (f0 f1 f2 f3 f4 f5 f7 f9 f10 f11 f12 f13 f14 f15 f16 f17 f18 f19 f20 f21 f22 f23 f24 f25 f26 f35 : Value) (ds : List Deferred) (rd : Option Nat) (I : Nat → Value → Value → Heap → Prop) (m : Nat) (s : St) : Prop := ∃ (v6 v27 : Value), ∃ h : Heap, ∃ (x8 x28 x29 x30 x31 x32 x33 x34 : Value), s = ⟨[f0, f1, f2, f3, f4, f5, v6, f7, x8, f9, f10, f11, f12, f13, f14, f15, f16, f17, f18, f19, f20, f21, f22, f23, f24, f25, f26, v27, x28, x29, x30, x31, x32, x33, x34, f35], ds, h, rd⟩ ∧ I m v6 v27 h
theorem ztcQ_l1_rule {f0 f1 f2 f3 f4 f5 f7 f9 f10 f11 f12 f13 f14 f15 f16 f17 f18 f19 f20 f21 f22 f23 f24 f25 f26 f35 : Value} {ds : List Deferred} {rd : Option Nat} {Q : QP} (I : Nat → Value → Value → Heap → Prop) (hb : ∀ (m : Nat) (v6 v27 : Value) (h : Heap) (x8 x28 x29 x30 x31 x32 x33 x34 : Value) , I m v6 v27 h → RunC Tryz.prog T0 ztcQ_l1 ⟨[f0, f1, f2, f3, f4, f5, v6, f7, x8, f9, f10, f11, f12, f13, f14, f15, f16, f17, f18, f19, f20, f21, f22, f23, f24, f25, f26, v27, x28, x29, x30, x31, x32, x33, x34, f35], ds, h, rd⟩ (loopQ (ztcQ_l1_J f0 f1 f2 f3 f4 f5 f7 f9 f10 f11 f12 f13 f14 f15 f16 f17 f18 f19 f20 f21 f22 f23 f24 f25 f26 f35 ds rd I) m Q))
 (m : Nat) {v6 v27 : Value} {h : Heap} {x8 x28 x29 x30 x31 x32 x33 x34 : Value} (hi : I m v6 v27 h) : RunC Tryz.prog T0 (.loop ztcQ_l1) ⟨[f0, f1, f2, f3, f4, f5, v6, f7, x8, f9, f10, f11, f12, f13, f14, f15, f16, f17, f18, f19, f20, f21, f22, f23, f24, f25, f26, v27, x28, x29, x30, x31, x32, x33, x34, f35], ds, h, rd⟩ Q :=
 RunC.loopJ (ztcQ_l1_J f0 f1 f2 f3 f4 f5 f7 f9 f10 f11 f12 f13 f14 f15 f16 f17 f18 f19 f20 f21 f22 f23 f24 f25 f26 f35 ds rd I) (fun m s hj => by obtain ⟨v6, v27, h, x8, x28, x29, x30, x31, x32, x33, x34, rfl, hi⟩ := hj; exact hb m v6 v27 h x8 x28 x29 x30 x31 x32 x33 x34 hi) m _ ⟨_, _, h, _, _, _, _, _, _, _, _, rfl, hi⟩
theorem ztcQ_l1_again {f0 f1 f2 f3 f4 f5 f7 f9 f10 f11 f12 f13 f14 f15 f16 f17 f18 f19 f20 f21 f22 f23 f24 f25 f26 f35 : Value} {ds : List Deferred} {rd : Option Nat} {Q : QP} {I : Nat → Value → Value → Heap → Prop} {m : Nat} (m' : Nat) {v6 v27 : Value} {h : Heap} {x8 x28 x29 x30 x31 x32 x33 x34 : Value} (hm : m' < m) (hi : I m' v6 v27 h) : loopQ (ztcQ_l1_J f0 f1 f2 f3 f4 f5 f7 f9 f10 f11 f12 f13 f14 f15 f16 f17 f18 f19 f20 f21 f22 f23 f24 f25 f26 f35 ds rd I) m Q .normal ⟨[f0, f1, f2, f3, f4, f5, v6, f7, x8, f9, f10, f11, f12, f13, f14, f15, f16, f17, f18, f19, f20, f21, f22, f23, f24, f25, f26, v27, x28, x29, x30, x31, x32, x33, x34, f35], ds, h, rd⟩ :=
 loopQ.again m' hm ⟨_, _, h, _, _, _, _, _, _, _, _, rfl, hi⟩
abbrev fn_zacQ : FuncId := 150
def zacQ_l0 : ACode :=
 (.seq (.seq (.region [
 o1 5 (.mov (tm 3)),
 o1 6 (.mov (tm 0)),
 o1 7 (.lenStr (tm 6)),
 o1 8 (.bin .lss (so (.binOp .lss 3 (tm 5) (tm 7) 3) 4) (tm 5) (tm 7))]) (.cond (tm 8)
 .skip
 (.exit 0))) (.seq (.block 1 (.seq (.region [
 o1 11 (.mov (tm 0)),
 o1 12 (.mov (tm 3)),
 o1 13 (.raw (so (.index 9 (tm 11) (tm 12)) 5)),
 o1 4 (.mov (tm 13))]) (.seq (.region [
 o1 14 (.mov (tm 4)),
 o1 15 (.bin .lss (so (.binOp .lss 5 (tm 14) (.const (.int .u8 97)) 5) 4) (tm 14) (.const (.int .u8 97))),
 o1 16 (.mov (tm 15)),
 o5 17 (.mov (tm 4)) 16,
 o5 18 (.bin .gtr (so (.binOp .gtr 5 (tm 17) (.const (.int .u8 122)) 5) 4) (tm 17) (.const (.int .u8 122))) 16,
 o1 19 (.pick (tm 16) (.const (.bool true)) (tm 18)),
 o1 20 (.mov (tm 19)),
 o4 21 (.mov (tm 4)) 20,
 o4 22 (.bin .lss (so (.binOp .lss 5 (tm 21) (.const (.int .u8 48)) 5) 4) (tm 21) (.const (.int .u8 48))) 20,
 o4 23 (.mov (tm 22)) 20,
 o5 24 (.mov (tm 4)) 23,
 o5 25 (.bin .gtr (so (.binOp .gtr 5 (tm 24) (.const (.int .u8 57)) 5) 4) (tm 24) (.const (.int .u8 57))) 23,
 o4 26 (.pick (tm 23) (.const (.bool true)) (tm 25)) 20,
 o1 27 (.pick (tm 20) (tm 26) (.const (.bool false))),
 o1 28 (.mov (tm 27)),
 o4 29 (.mov (tm 4)) 28,
 o4 30 (.bin .neq (so (.binOp .neq 5 (tm 29) (.const (.int .u8 45)) 5) 4) (tm 29) (.const (.int .u8 45))) 28,
 o1 31 (.pick (tm 28) (tm 30) (.const (.bool false)))]) (.cond (tm 31)
 (.seq (.region [
 o1 2 (.mov (.const (.bool false)))]) .ret)
 .skip)))) (.region [
 o1 9 (.mov (tm 3)),
 o1 10 (.bin .add (so (.binOp .add 3 (tm 9) (.const (.int .i64 1)) 3) 3) (tm 9) (.const (.int .i64 1))),
 o1 3 (.mov (tm 10))])))
def zacQ_c : ACode :=
 (.seq (.region [
 o1 2 (.mov (.const (.bool false)))]) (.seq (.seq (.region [
 o1 3 (.mov k0)]) (.block 0 (.loop zacQ_l0))) (.seq (.region [
 o1 32 (.mov (tm 0)),
 o1 33 (.lenStr (tm 32)),
 o1 34 (.bin .geq (so (.binOp .geq 3 (tm 33) (.const (.int .i64 1)) 3) 4) (tm 33) (.const (.int .i64 1))),
 o1 35 (.mov (tm 34)),
 o4 36 (.mov (tm 0)) 35,
 o4 37 (.lenStr (tm 36)) 35,
 o4 38 (.bin .leq (so (.binOp .leq 3 (tm 37) (.const (.int .i64 32)) 3) 4) (tm 37) (.const (.int .i64 32))) 35,
 o1 39 (.pick (tm 35) (tm 38) (.const (.bool false))),
 o1 2 (.mov (tm 39))]) .ret)))
def zacQ : AFunc := ⟨40, [(2, none)], zacQ_c, none⟩
theorem zacQ_t0 : tableOf Tryz.prog 150 = some zacQ := by kernel_rfl
theorem zacQ_t : T0 150 = some zacQ := withKept_t rfl (withTrue_t rfl zacQ_t0)
theorem zacQ_runs {v0 : Value} {h : Heap} {R : RP} {X : XP} (k : RunC Tryz.prog T0 zacQ_c ⟨[v0, U, U, U, U, U, U, U, U, U, U, U, U, U, U, U, U, U, U, U, U, U, U, U, U, U, U, U, U, U, U, U, U, U, U, U, U, U, U, U], [], h, none⟩ (bodyQ Tryz.prog T0 [(2, none)] R X)) :
 Runs Tryz.prog T0 (.fn 150) [v0] h R X := Runs.fn zacQ_t rfl k
def zacQ_l0_J (f0 f1 f32 f33 f34 f35 f36 f37 f38 f39 : Value) (ds : List Deferred) (rd : Option Nat) (I : Nat → Value → Heap → Prop) (m : Nat) (s : St) : Prop := ∃ (v3 : Value), ∃ h : Heap, ∃ (x2 x4 x5 x6 x7 x8 x9 x10 x11 x12 x13 x14 x15 x16 x17 x18 x19 x20 x21 x22 x23 x24 x25 x26 x27 x28 x29 x30 x31 : Value), s = ⟨[f0, f1, x2, v3, x4, x5, x6, x7, x8, x9, x10, x11, x12, x13, x14, x15, x16, x17, x18, x19, x20, x21, x22, x23, x24, x25, x26, x27, x28, x29, x30, x31, f32, f33, f34, f35, f36, f37, f38, f39], ds, h, rd⟩ ∧ I m v3 h
theorem zacQ_l0_rule {f0 f1 f32 f33 f34 f35 f36 f37 f38 f39 : Value} {ds : List Deferred} {rd : Option Nat} {Q : QP} (I : Nat → Value → Heap → Prop) (hb : ∀ (m : Nat) (v3 : Value) (h : Heap) (x2 x4 x5 x6 x7 x8 x9 x10 x11 x12 x13 x14 x15 x16 x17 x18 x19 x20 x21 x22 x23 x24 x25 x26 x27 x28 x29 x30 x31 : Value) , I m v3 h → RunC Tryz.prog T0 zacQ_l0 ⟨[f0, f1, x2, v3, x4, x5, x6, x7, x8, x9, x10, x11, x12, x13, x14, x15, x16, x17, x18, x19, x20, x21, x22, x23, x24, x25, x26, x27, x28, x29, x30, x31, f32, f33, f34, f35, f36, f37, f38, f39], ds, h, rd⟩ (loopQ (zacQ_l0_J f0 f1 f32 f33 f34 f35 f36 f37 f38 f39 ds rd I) m Q))
 (m : Nat) {v3 : Value} {h : Heap} {x2 x4 x5 x6 x7 x8 x9 x10 x11 x12 x13 x14 x15 x16 x17 x18 x19 x20 x21 x22 x23 x24 x25 x26 x27 x28 x29 x30 x31 : Value} (hi : I m v3 h) : RunC Tryz.prog T0 (.loop zacQ_l0) ⟨[f0, f1, x2, v3, x4, x5, x6, x7, x8, x9, x10, x11, x12, x13, x14, x15, x16, x17, x18, x19, x20, x21, x22, x23, x24, x25, x26, x27, x28, x29, x30, x31, f32, f33, f34, f35, f36, f37, f38, f39], ds, h, rd⟩ Q :=
 RunC.loopJ (zacQ_l0_J f0 f1 f32 f33 f34 f35 f36 f37 f38 f39 ds rd I) (fun m s hj => by obtain ⟨v3, h, x2, x4, x5, x6, x7, x8, x9, x10, x11, x12, x13, x14, x15, x16, x17, x18, x19, x20, x21, x22, x23, x24, x25, x26, x27, x28, x29, x30, x31, rfl, hi⟩ := hj; exact hb m v3 h x2 x4 x5 x6 x7 x8 x9 x10 x11 x12 x13 x14 x15 x16 x17 x18 x19 x20 x21 x22 x23 x24 x25 x26 x27 x28 x29 x30 x31 hi) m _ ⟨_, h, _, _, _, _, _, _, _, _, _, _, _, _, _, _, _, _, _, _, _, _, _, _, _, _, _, _, _, _, _, rfl, hi⟩
theorem zacQ_l0_again {f0 f1 f32 f33 f34 f35 f36 f37 f38 f39 : Value} {ds : List Deferred} {rd : Option Nat} {Q : QP} {I : Nat → Value → Heap → Prop} {m : Nat} (m' : Nat) {v3 : Value} {h : Heap} {x2 x4 x5 x6 x7 x8 x9 x10 x11 x12 x13 x14 x15 x16 x17 x18 x19 x20 x21 x22 x23 x24 x25 x26 x27 x28 x29 x30 x31 : Value} (hm : m' < m) (hi : I m' v3 h) : loopQ (zacQ_l0_J f0 f1 f32 f33 f34 f35 f36 f37 f38 f39 ds rd I) m Q .normal ⟨[f0, f1, x2, v3, x4, x5, x6, x7, x8, x9, x10, x11, x12, x13, x14, x15, x16, x17, x18, x19, x20, x21, x22, x23, x24, x25, x26, x27, x28, x29, x30, x31, f32, f33, f34, f35, f36, f37, f38, f39], ds, h, rd⟩ :=
 loopQ.again m' hm ⟨_, h, _, _, _, _, _, _, _, _, _, _, _, _, _, _, _, _, _, _, _, _, _, _, _, _, _, _, _, _, _, rfl, hi⟩
abbrev fn_zxbQ : FuncId := 151
def zxbQ_l0 : ACode :=
 (.seq (.seq (.region [
 o1 6 (.mov (tm 5)),
 o1 7 (.bin .lss (so (.binOp .lss 3 (tm 6) (.const (.int .i64 4)) 3) 4) (tm 6) (.const (.int .i64 4)))]) (.cond (tm 7)
 .skip
 (.exit 0))) (.seq (.block 1 (.seq (.regionD [
 o1 10 (.mov (tm 5)),
 o1 11 (.indexArr 4 1 (tm 2) (tm 10)),
 o1 12 (.load none (tm 11)),
 o1 13 (.mov (tm 5)),
 o1 14 (.indexArr 4 1 (tm 3) (tm 13)),
 o1 15 (.load none (tm 14)),
 o2 16 (.bin .neq (so (.binOp .neq 5 (tm 12) (tm 15) 5) 4) (tm 12) (tm 15))]) (.cond (tm 16)
 (.seq (.regionD [
 o1 17 (.mov (tm 5)),
 o1 18 (.indexArr 4 1 (tm 2) (tm 17)),
 o1 19 (.load none (tm 18)),
 o1 20 (.mov (tm 5)),
 o1 21 (.indexArr 4 1 (tm 3) (tm 20)),
 o1 22 (.load none (tm 21)),
 o2 23 (.bin .lss (so (.binOp .lss 5 (tm 19) (tm 22) 5) 4) (tm 19) (tm 22)),
 o2 4 (.mov (tm 23))]) .ret)
 .skip))) (.region [
 o1 8 (.mov (tm 5)),
 o1 9 (.bin .add (so (.binOp .add 3 (tm 8) (.const (.int .i64 1)) 3) 3) (tm 8) (.const (.int .i64 1))),
 o1 5 (.mov (tm 9))])))
def zxbQ_c : ACode :=
 (.seq (.region [
 o1 2 (.box 130 (tm 0)),
 o1 3 (.box 130 (tm 1)),
 o1 4 (.mov (.const (.bool false)))]) (.seq (.seq (.region [
 o1 5 (.mov k0)]) (.block 0 (.loop zxbQ_l0))) (.seq (.region [
 o1 4 (.mov (.const (.bool false)))]) .ret)))
def zxbQ : AFunc := ⟨24, [(4, none)], zxbQ_c, none⟩
theorem zxbQ_t0 : tableOf Tryz.prog 151 = some zxbQ := by kernel_rfl
theorem zxbQ_t : T0 151 = some zxbQ := withKept_t rfl (withTrue_t rfl zxbQ_t0)
theorem zxbQ_runs {v0 v1 : Value} {h : Heap} {R : RP} {X : XP} (k : RunC Tryz.prog T0 zxbQ_c ⟨[v0, v1, U, U, U, U, U, U, U, U, U, U, U, U, U, U, U, U, U, U, U, U, U, U], [], h, none⟩ (bodyQ Tryz.prog T0 [(4, none)] R X)) :
 Runs Tryz.prog T0 (.fn 151) [v0, v1] h R X := Runs.fn zxbQ_t rfl k
def zxbQ_l0_J (f0 f1 f2 f3 : Value) (ds : List Deferred) (rd : Option Nat) (I : Nat → Value → Heap → Prop) (m : Nat) (s : St) : Prop := ∃ (v5 : Value), ∃ h : Heap, ∃ (x4 x6 x7 x8 x9 x10 x11 x12 x13 x14 x15 x16 x17 x18 x19 x20 x21 x22 x23 : Value), s = ⟨[f0, f1, f2, f3, x4, v5, x6, x7, x8, x9, x10, x11, x12, x13, x14, x15, x16, x17, x18, x19, x20, x21, x22, x23], ds, h, rd⟩ ∧ I m v5 h
theorem zxbQ_l0_rule {f0 f1 f2 f3 : Value} {ds : List Deferred} {rd : Option Nat} {Q : QP} (I : Nat → Value → Heap → Prop) (hb : ∀ (m : Nat) (v5 : Value) (h : Heap) (x4 x6 x7 x8 x9 x10 x11 x12 x13 x14 x15 x16 x17 x18 x19 x20 x21 x22 x23 : Value) , I m v5 h → RunC Tryz.prog T0 zxbQ_l0 ⟨[f0, f1, f2, f3, x4, v5, x6, x7, x8, x9, x10, x11, x12, x13, x14, x15, x16, x17, x18, x19, x20, x21, x22, x23], ds, h, rd⟩ (loopQ (zxbQ_l0_J f0 f1 f2 f3 ds rd I) m Q))
 (m : Nat) {v5 : Value} {h : Heap} {x4 x6 x7 x8 x9 x10 x11 x12 x13 x14 x15 x16 x17 x18 x19 x20 x21 x22 x23 : Value} (hi : I m v5 h) : RunC Tryz.prog T0 (.loop zxbQ_l0) ⟨[f0, f1, f2, f3, x4, v5, x6, x7, x8, x9, x10, x11, x12, x13, x14, x15, x16, x17, x18, x19, x20, x21, x22, x23], ds, h, rd⟩ Q :=
 RunC.loopJ (zxbQ_l0_J f0 f1 f2 f3 ds rd I) (fun m s hj => by obtain ⟨v5, h, x4, x6, x7, x8, x9, x10, x11, x12, x13, x14, x15, x16, x17, x18, x19, x20, x21, x22, x23, rfl, hi⟩ := hj; exact hb m v5 h x4 x6 x7 x8 x9 x10 x11 x12 x13 x14 x15 x16 x17 x18 x19 x20 x21 x22 x23 hi) m _ ⟨_, h, _, _, _, _, _, _, _, _, _, _, _, _, _, _, _, _, _, _, _, rfl, hi⟩
theorem zxbQ_l0_again {f0 f1 f2 f3 : Value} {ds : List Deferred} {rd : Option Nat} {Q : QP} {I : Nat → Value → Heap → Prop} {m : Nat} (m' : Nat) {v5 : Value} {h : Heap} {x4 x6 x7 x8 x9 x10 x11 x12 x13 x14 x15 x16 x17 x18 x19 x20 x21 x22 x23 : Value} (hm : m' < m) (hi : I m' v5 h) : loopQ (zxbQ_l0_J f0 f1 f2 f3 ds rd I) m Q .normal ⟨[f0, f1, f2, f3, x4, v5, x6, x7, x8, x9, x10, x11, x12, x13, x14, x15, x16, x17, x18, x19, x20, x21, x22, x23], ds, h, rd⟩ :=
 loopQ.again m' hm ⟨_, h, _, _, _, _, _, _, _, _, _, _, _, _, _, _, _, _, _, _, _, rfl, hi⟩
abbrev fn_ztbQ : FuncId := 152
def ztbQ_c : ACode :=
 (.seq (.region [
 o1 4 (.mov k0)]) (.seq (.region [
 o1 5 (.mov (tm 0)),
 o1 6 (.mov (tm 1)),
 o1 7 (.strToBytes 5 (tm 6)),
 o1 8 (.callV (.func 97) [(tm 7)]),
 o1 9 (.callV (.func 91) [(tm 5), (tm 8)]),
 o1 4 (.mov (tm 9))]) .ret))
def ztbQ : AFunc := ⟨10, [(4, none)], ztbQ_c, none⟩
theorem ztbQ_t0 : tableOf Tryz.prog 152 = some ztbQ := by kernel_rfl
theorem ztbQ_t : T0 152 = some ztbQ := withKept_t rfl (withTrue_t rfl ztbQ_t0)
theorem ztbQ_runs {v0 v1 : Value} {h : Heap} {R : RP} {X : XP} (k : RunC Tryz.prog T0 ztbQ_c ⟨[v0, v1, U, U, U, U, U, U, U, U], [], h, none⟩ (bodyQ Tryz.prog T0 [(4, none)] R X)) :
 Runs Tryz.prog T0 (.fn 152) [v0, v1] h R X := Runs.fn ztbQ_t rfl k
abbrev fn_zmbQ : FuncId := 153
def zmbQ_l0 : ACode :=
 (.seq (.seq (.region [
 o1 5 (.mov (tm 4)),
 o1 6 (.bin .lss (so (.binOp .lss 3 (tm 5) (.const (.int .i64 8)) 3) 4) (tm 5) (.const (.int .i64 8)))]) (.cond (tm 6)
 .skip
 (.exit 0))) (.seq (.block 1 (.seq (.region [
 o1 9 (.mov (tm 0)),
 o1 10 (.conv .u8 (so (.convert 124 5 (tm 9)) 5) (tm 9)),
 o1 11 (.buildSlice 5 [(.int .u8 0)] 1 [(0, 1, (tm 10))]),
 o1 12 (.mov (tm 3)),
 o1 13 (.append 5 1 1 [(.int .u8 0)] false (tm 11) (tm 12)),
 o1 3 (.mov (tm 13))]) (.region [
 o1 14 (.mov (tm 0)),
 o1 15 (.bin .shr (so (.binOp .shr 124 (tm 14) (.const (.int .u64 8)) 125) 124) (tm 14) (.const (.int .u64 8))),
 o1 0 (.mov (tm 15))]))) (.region [
 o1 7 (.mov (tm 4)),
 o1 8 (.bin .add (so (.binOp .add 3 (tm 7) (.const (.int .i64 1)) 3) 3) (tm 7) (.const (.int .i64 1))),
 o1 4 (.mov (tm 8))])))
def zmbQ_c : ACode :=
 (.seq (.region [
 o1 2 (.mov (.const (.slice none 0 0)))]) (.seq (.region [
 o1 3 (.mov (.const (.slice none 0 0)))]) (.seq (.seq (.region [
 o1 4 (.mov k0)]) (.block 0 (.loop zmbQ_l0))) (.seq (.region [
 o1 16 (.mov (tm 3)),
 o1 2 (.mov (tm 16))]) .ret))))
def zmbQ : AFunc := ⟨17, [(2, none)], zmbQ_c, none⟩
theorem zmbQ_t0 : tableOf Tryz.prog 153 = some zmbQ := by kernel_rfl
theorem zmbQ_t : T0 153 = some zmbQ := withKept_t rfl (withTrue_t rfl zmbQ_t0)
theorem zmbQ_runs {v0 : Value} {h : Heap} {R : RP} {X : XP} (k : RunC Tryz.prog T0 zmbQ_c ⟨[v0, U, U, U, U, U, U, U, U, U, U, U, U, U, U, U, U], [], h, none⟩ (bodyQ Tryz.prog T0 [(2, none)] R X)) :
 Runs Tryz.prog T0 (.fn 153) [v0] h R X := Runs.fn zmbQ_t rfl k
def zmbQ_l0_J (f1 f2 f16 : Value) (ds : List Deferred) (rd : Option Nat) (I : Nat → Value → Value → Value → Heap → Prop) (m : Nat) (s : St) : Prop := ∃ (v0 v3 v4 : Value), ∃ h : Heap, ∃ (x5 x6 x7 x8 x9 x10 x11 x12 x13 x14 x15 : Value), s = ⟨[v0, f1, f2, v3, v4, x5, x6, x7, x8, x9, x10, x11, x12, x13, x14, x15, f16], ds, h, rd⟩ ∧ I m v0 v3 v4 h
theorem zmbQ_l0_rule {f1 f2 f16 : Value} {ds : List Deferred} {rd : Option Nat} {Q : QP} (I : Nat → Value → Value → Value → Heap → Prop) (hb : ∀ (m : Nat) (v0 v3 v4 : Value) (h : Heap) (x5 x6 x7 x8 x9 x10 x11 x12 x13 x14 x15 : Value) , I m v0 v3 v4 h → RunC Tryz.prog T0 zmbQ_l0 ⟨[v0, f1, f2, v3, v4, x5, x6, x7, x8, x9, x10, x11, x12, x13, x14, x15, f16], ds, h, rd⟩ (loopQ (zmbQ_l0_J f1 f2 f16 ds rd I) m Q))
 (m : Nat) {v0 v3 v4 : Value} {h : Heap} {x5 x6 x7 x8 x9 x10 x11 x12 x13 x14 x15 : Value} (hi : I m v0 v3 v4 h) : RunC Tryz.prog T0 (.loop zmbQ_l0) ⟨[v0, f1, f2, v3, v4, x5, x6, x7, x8, x9, x10, x11, x12, x13, x14, x15, f16], ds, h, rd⟩ Q :=
 RunC.loopJ (zmbQ_l0_J f1 f2 f16 ds rd I) (fun m s hj => by obtain ⟨v0, v3, v4, h, x5, x6, x7, x8, x9, x10, x11, x12, x13, x14, x15, rfl, hi⟩ := hj; exact hb m v0 v3 v4 h x5 x6 x7 x8 x9 x10 x11 x12 x13 x14 x15 hi) m _ ⟨_, _, _, h, _, _, _, _, _, _, _, _, _, _, _, rfl, hi⟩
theorem zmbQ_l0_again {f1 f2 f16 : Value} {ds : List Deferred} {rd : Option Nat} {Q : QP} {I : Nat → Value → Value → Value → Heap → Prop} {m : Nat} (m' : Nat) {v0 v3 v4 : Value} {h : Heap} {x5 x6 x7 x8 x9 x10 x11 x12 x13 x14 x15 : Value} (hm : m' < m) (hi : I m' v0 v3 v4 h) : loopQ (zmbQ_l0_J f1 f2 f16 ds rd I) m Q .normal ⟨[v0, f1, f2, v3, v4, x5, x6, x7, x8, x9, x10, x11, x12, x13, x14, x15, f16], ds, h, rd⟩ :=
 loopQ.again m' hm ⟨_, _, _, h, _, _, _, _, _, _, _, _, _, _, _, rfl, hi⟩
abbrev fn_zuQ : FuncId := 154
def zuQ_c : ACode :=
 (.seq (.region [
 o1 1 (.box 30 (tm 0)),
 o1 2 (.mov (.const (.bool false)))]) (.seq (.region [
 o1 3 (.fieldAddr 0 (tm 1)),
 o1 4 (.load none (tm 3)),
 o1 5 (.callV (.func 155) [(tm 4)]),
 o1 2 (.mov (tm 5))]) .ret))
def zuQ : AFunc := ⟨6, [(2, none)], zuQ_c, none⟩
theorem zuQ_t0 : tableOf Tryz.prog 154 = some zuQ := by kernel_rfl
theorem zuQ_t : T0 154 = some zuQ := withKept_t rfl (withTrue_t rfl zuQ_t0)
theorem zuQ_runs {v0 : Value} {h : Heap} {R : RP} {X : XP} (k : RunC Tryz.prog T0 zuQ_c ⟨[v0, U, U, U, U, U], [], h, none⟩ (bodyQ Tryz.prog T0 [(2, none)] R X)) :
 Runs Tryz.prog T0 (.fn 154) [v0] h R X := Runs.fn zuQ_t rfl k
abbrev fn_zpQ : FuncId := 155
def zpQ_c : ACode :=
 (.seq (.region [
 o1 2 (.mov (.const (.bool false)))]) (.seq (.region [
 o1 3 (.mov (tm 0)),
 o1 4 (.lenStr (tm 3)),
 o1 5 (.bin .geq (so (.binOp .geq 3 (tm 4) (.const (.int .i64 1)) 3) 4) (tm 4) (.const (.int .i64 1))),
 o1 6 (.mov (tm 5)),
 o4 7 (.mov (tm 0)) 6,
 o4 8 (.lenStr (tm 7)) 6,
 o4 9 (.bin .leq (so (.binOp .leq 3 (tm 8) (.const (.int .i64 32)) 3) 4) (tm 8) (.const (.int .i64 32))) 6,
 o1 10 (.pick (tm 6) (tm 9) (.const (.bool false))),
 o1 11 (.mov (tm 10)),
 o4 12 (.mov (tm 0)) 11,
 o4 13 (.callV (.func 161) [(tm 12), (.func 162)]) 11,
 o1 14 (.pick (tm 11) (tm 13) (.const (.bool false))),
 o1 2 (.mov (tm 14))]) .ret))
def zpQ : AFunc := ⟨15, [(2, none)], zpQ_c, none⟩
theorem zpQ_t0 : tableOf Tryz.prog 155 = some zpQ := by kernel_rfl
theorem zpQ_t : T0 155 = some zpQ := withKept_t rfl (withTrue_t rfl zpQ_t0)
theorem zpQ_runs {v0 : Value} {h : Heap} {R : RP} {X : XP} (k : RunC Tryz.prog T0 zpQ_c ⟨[v0, U, U, U, U, U, U, U, U, U, U, U, U, U, U], [], h, none⟩ (bodyQ Tryz.prog T0 [(2, none)] R X)) :
 Runs Tryz.prog T0 (.fn 155) [v0] h R X := Runs.fn zpQ_t rfl k
abbrev fn_zvQ : FuncId := 156
def zvQ_c : ACode :=
 (.seq (.region [
 o1 1 (.box 30 (tm 0)),
 o1 2 (.mov (.const (.bool false)))]) (.seq (.region [
 o1 3 (.fieldAddr 1 (tm 1)),
 o1 4 (.load none (tm 3)),
 o1 5 (.bin .geq (so (.binOp .geq 3 (tm 4) (.const (.int .i64 1)) 3) 4) (tm 4) (.const (.int .i64 1))),
 o1 6 (.mov (tm 5)),
 o4 7 (.fieldAddr 1 (tm 1)) 6,
 o4 8 (.load none (tm 7)) 6,
 o4 9 (.bin .leq (so (.binOp .leq 3 (tm 8) (.const (.int .i64 1073741824)) 3) 4) (tm 8) (.const (.int .i64 1073741824))) 6,
 o1 10 (.pick (tm 6) (tm 9) (.const (.bool false))),
 o1 2 (.mov (tm 10))]) .ret))
def zvQ : AFunc := ⟨11, [(2, none)], zvQ_c, none⟩
theorem zvQ_t0 : tableOf Tryz.prog 156 = some zvQ := by kernel_rfl
theorem zvQ_t : T0 156 = some zvQ := withKept_t rfl (withTrue_t rfl zvQ_t0)
theorem zvQ_runs {v0 : Value} {h : Heap} {R : RP} {X : XP} (k : RunC Tryz.prog T0 zvQ_c ⟨[v0, U, U, U, U, U, U, U, U, U, U], [], h, none⟩ (bodyQ Tryz.prog T0 [(2, none)] R X)) :
 Runs Tryz.prog T0 (.fn 156) [v0] h R X := Runs.fn zvQ_t rfl k
abbrev fn_zwQ : FuncId := 157
def zwQ_c : ACode :=
 (.seq (.region [
 o1 1 (.box 30 (tm 0)),
 o1 2 (.mov (.const (.bool false)))]) (.seq (.region [
 o1 3 (.fieldAddr 2 (tm 1)),
 o1 4 (.load none (tm 3)),
 o1 5 (.bin .geq (so (.binOp .geq 3 (tm 4) k0 3) 4) (tm 4) k0),
 o1 6 (.mov (tm 5)),
 o4 7 (.fieldAddr 2 (tm 1)) 6,
 o4 8 (.load none (tm 7)) 6,
 o4 9 (.bin .leq (so (.binOp .leq 3 (tm 8) (.const (.int .i64 1099511627776)) 3) 4) (tm 8) (.const (.int .i64 1099511627776))) 6,
 o1 10 (.pick (tm 6) (tm 9) (.const (.bool false))),
 o1 2 (.mov (tm 10))]) .ret))
def zwQ : AFunc := ⟨11, [(2, none)], zwQ_c, none⟩
theorem zwQ_t0 : tableOf Tryz.prog 157 = some zwQ := by kernel_rfl
theorem zwQ_t : T0 157 = some zwQ := withKept_t rfl (withTrue_t rfl zwQ_t0)
theorem zwQ_runs {v0 : Value} {h : Heap} {R : RP} {X : XP} (k : RunC Tryz.prog T0 zwQ_c ⟨[v0, U, U, U, U, U, U, U, U, U, U], [], h, none⟩ (bodyQ Tryz.prog T0 [(2, none)] R X)) :
 Runs Tryz.prog T0 (.fn 157) [v0] h R X := Runs.fn zwQ_t rfl k
abbrev fn_ziQ : FuncId := 158
def ziQ_c : ACode :=
 (.seq (.region [
 o1 4 (.mov k0)]) (.seq (.region [
 o1 5 (.mov (tm 0)),
 o1 6 (.mov (tm 1)),
 o1 7 (.ext .compare (.func 163) [(tm 5), (tm 6)]),
 o1 4 (.mov (tm 7))]) .ret))
def ziQ : AFunc := ⟨8, [(4, none)], ziQ_c, none⟩
theorem ziQ_t0 : tableOf Tryz.prog 158 = some ziQ := by kernel_rfl
theorem ziQ_t : T0 158 = some ziQ := withKept_t rfl (withTrue_t rfl ziQ_t0)
theorem ziQ_runs {v0 v1 : Value} {h : Heap} {R : RP} {X : XP} (k : RunC Tryz.prog T0 ziQ_c ⟨[v0, v1, U, U, U, U, U, U], [], h, none⟩ (bodyQ Tryz.prog T0 [(4, none)] R X)) :
 Runs Tryz.prog T0 (.fn 158) [v0, v1] h R X := Runs.fn ziQ_t rfl k
abbrev fn_zmQ : FuncId := 159
def zmQ_c : ACode :=
 (.seq (.region [
 o1 2 (.box 134 (tm 0)),
 o1 3 (.mov k0)]) (.seq (.block 0 (.seq (.region [
 o1 5 (.fieldAddr 0 (tm 2)),
 o1 6 (.load none (tm 5)),
 o1 7 (.bin .lss (so (.binOp .lss 3 (tm 6) k0 3) 4) (tm 6) k0),
 o1 8 (.mov (tm 7)),
 o5 9 (.fieldAddr 0 (tm 2)) 8,
 o5 10 (.load none (tm 9)) 8,
 o5 11 (.bin .geq (so (.binOp .geq 3 (tm 10) (.const (.int .i64 64)) 3) 4) (tm 10) (.const (.int .i64 64))) 8,
 o1 12 (.pick (tm 8) (.const (.bool true)) (tm 11)),
 o1 4 (.mov (tm 12))]) (.cond (tm 4)
 (.seq (.region [
 o1 3 (.mov (.const (.int .i64 3)))]) .ret)
 (.seq (.region [
 o1 14 (.fieldAddr 0 (tm 2)),
 o1 15 (.load none (tm 14)),
 o1 16 (.load none (tm 1)),
 o1 17 (.bin .leq (so (.binOp .leq 3 (tm 15) (tm 16) 3) 4) (tm 15) (tm 16)),
 o1 13 (.mov (tm 17))]) (.cond (tm 13)
 (.seq (.region [
 o1 3 (.mov (.const (.int .i64 9)))]) .ret)
 .skip))))) (.seq (.region [
 o1 18 (.fieldAddr 0 (tm 2)),
 o1 19 (.load none (tm 18)),
 o3 (.store 1 (tm 1) (tm 19))]) (.seq (.region [
 o1 3 (.mov k0)]) .ret))))
def zmQ : AFunc := ⟨20, [(3, none)], zmQ_c, none⟩
theorem zmQ_t0 : tableOf Tryz.prog 159 = some zmQ := by kernel_rfl
theorem zmQ_t : T0 159 = some zmQ := withKept_t rfl (withTrue_t rfl zmQ_t0)
theorem zmQ_runs {v0 v1 : Value} {h : Heap} {R : RP} {X : XP} (k : RunC Tryz.prog T0 zmQ_c ⟨[v0, v1, U, U, U, U, U, U, U, U, U, U, U, U, U, U, U, U, U, U], [], h, none⟩ (bodyQ Tryz.prog T0 [(3, none)] R X)) :
 Runs Tryz.prog T0 (.fn 159) [v0, v1] h R X := Runs.fn zmQ_t rfl k
abbrev fn_zucQ : FuncId := 160
def zucQ_c : ACode :=
 (.seq (.region [
 o1 4 (.mov (.const (.slice none 0 0)))]) (.seq (.seq (.region [
 o1 5 (.mov (tm 1)),
 o1 6 (.bin .lss (so (.binOp .lss 3 (tm 5) k0 3) 4) (tm 5) k0)]) (.cond (tm 6)
 (.region [
 o1 7 (.mkIface 9 (.const (.string ⟨⟨[99, 97, 110, 110, 111, 116, 32, 98, 101, 32, 110, 101, 103, 97, 116, 105, 118, 101]⟩⟩))),
 o3 (.panic (tm 7))])
 .skip)) (.seq (.seq (.region [
 o1 8 (.mov (tm 1)),
 o1 9 (.mov (tm 0)),
 o1 10 (.cap (tm 9)),
 o1 11 (.mov (tm 0)),
 o1 12 (.lenSl (tm 11)),
 o1 13 (.bin .sub (so (.binOp .sub 3 (tm 10) (tm 12) 3) 3) (tm 10) (tm 12)),
 o1 14 (.bin .sub (so (.binOp .sub 3 (tm 8) (tm 13) 3) 3) (tm 8) (tm 13)),
 o1 1 (.mov (tm 14))]) (.seq (.region [
 o1 15 (.mov (tm 1)),
 o1 16 (.bin .gtr (so (.binOp .gtr 3 (tm 15) k0 3) 4) (tm 15) k0)]) (.cond (tm 16)
 (.region [
 o1 17 (.mov (tm 0)),
 o1 18 (.mov (tm 0)),
 o1 19 (.cap (tm 18)),
 o1 20 (.sliceSl 1 (tm 17) none (some (tm 19)) none),
 o1 21 (.mov (tm 1)),
 o1 22 (.append 5 1 1 [(.int .u8 0)] true (tm 20) (tm 21)),
 o1 23 (.mov (tm 0)),
 o1 24 (.lenSl (tm 23)),
 o1 25 (.sliceSl 1 (tm 22) none (some (tm 24)) none),
 o1 0 (.mov (tm 25))])
 .skip))) (.seq (.region [
 o1 26 (.mov (tm 0)),
 o1 4 (.mov (tm 26))]) .ret))))
def zucQ : AFunc := ⟨27, [(4, none)], zucQ_c, none⟩
theorem zucQ_t0 : tableOf Tryz.prog 160 = some zucQ := by kernel_rfl
theorem zucQ_t : T0 160 = some zucQ := withKept_t rfl (withTrue_t rfl zucQ_t0)
theorem zucQ_runs {v0 v1 : Value} {h : Heap} {R : RP} {X : XP} (k : RunC Tryz.prog T0 zucQ_c ⟨[v0, v1, U, U, U, U, U, U, U, U, U, U, U, U, U, U, U, U, U, U, U, U, U, U, U, U, U], [], h, none⟩ (bodyQ Tryz.prog T0 [(4, none)] R X)) :
 Runs Tryz.prog T0 (.fn 160) [v0, v1] h R X := Runs.fn zucQ_t rfl k
abbrev fn_zqQ : FuncId := 161
def zqQ_l0 : ACode :=
 (.seq (.region [
 o1 9 (.nextStr (tm 8)),
 o1 10 (.extract 0 (tm 9))]) (.seq (.cond (tm 10)
 .skip
 (.exit 0)) (.block 1 (.seq (.region [
 o1 11 (.extract 2 (tm 9)),
 o1 6 (.mov (tm 11))]) (.seq (.region [
 o1 12 (.mov (tm 1)),
 o1 13 (.mov (tm 6)),
 o1 14 (.callV (tm 12) [(tm 13)]),
 o1 15 (.raw (so (.unOp .not 4 (tm 14)) 4))]) (.cond (tm 15)
 (.seq (.region [
 o1 4 (.mov (.const (.bool false)))]) .ret)
 .skip))))))
def zqQ_c : ACode :=
 (.seq (.region [
 o1 4 (.mov (.const (.bool false)))]) (.seq (.seq (.region [
 o1 7 (.mov (tm 0)),
 o1 8 (.rangeStr (tm 7))]) (.block 0 (.loop zqQ_l0))) (.seq (.region [
 o1 4 (.mov (.const (.bool true)))]) .ret)))
def zqQ : AFunc := ⟨16, [(4, none)], zqQ_c, none⟩
theorem zqQ_t0 : tableOf Tryz.prog 161 = some zqQ := by kernel_rfl
theorem zqQ_t : T0 161 = some zqQ := withKept_t rfl (withTrue_t rfl zqQ_t0)
theorem zqQ_runs {v0 v1 : Value} {h : Heap} {R : RP} {X : XP} (k : RunC Tryz.prog T0 zqQ_c ⟨[v0, v1, U, U, U, U, U, U, U, U, U, U, U, U, U, U], [], h, none⟩ (bodyQ Tryz.prog T0 [(4, none)] R X)) :
 Runs Tryz.prog T0 (.fn 161) [v0, v1] h R X := Runs.fn zqQ_t rfl k
def zqQ_l0_J (f0 f1 f2 f3 f5 f7 f8 : Value) (ds : List Deferred) (rd : Option Nat) (I : Nat → Heap → Prop) (m : Nat) (s : St) : Prop := ∃ h : Heap, ∃ (x4 x6 x9 x10 x11 x12 x13 x14 x15 : Value), s = ⟨[f0, f1, f2, f3, x4, f5, x6, f7, f8, x9, x10, x11, x12, x13, x14, x15], ds, h, rd⟩ ∧ I m  h
theorem zqQ_l0_rule {f0 f1 f2 f3 f5 f7 f8 : Value} {ds : List Deferred} {rd : Option Nat} {Q : QP} (I : Nat → Heap → Prop) (hb : ∀ (m : Nat) (h : Heap) (x4 x6 x9 x10 x11 x12 x13 x14 x15 : Value) , I m  h → RunC Tryz.prog T0 zqQ_l0 ⟨[f0, f1, f2, f3, x4, f5, x6, f7, f8, x9, x10, x11, x12, x13, x14, x15], ds, h, rd⟩ (loopQ (zqQ_l0_J f0 f1 f2 f3 f5 f7 f8 ds rd I) m Q))
 (m : Nat) {v : Value} {h : Heap} {x4 x6 x9 x10 x11 x12 x13 x14 x15 : Value} (hi : I m  h) : RunC Tryz.prog T0 (.loop zqQ_l0) ⟨[f0, f1, f2, f3, x4, f5, x6, f7, f8, x9, x10, x11, x12, x13, x14, x15], ds, h, rd⟩ Q :=
 RunC.loopJ (zqQ_l0_J f0 f1 f2 f3 f5 f7 f8 ds rd I) (fun m s hj => by obtain ⟨h, x4, x6, x9, x10, x11, x12, x13, x14, x15, rfl, hi⟩ := hj; exact hb m  h x4 x6 x9 x10 x11 x12 x13 x14 x15 hi) m _ ⟨h, _, _, _, _, _, _, _, _, _, rfl, hi⟩
theorem zqQ_l0_again {f0 f1 f2 f3 f5 f7 f8 : Value} {ds : List Deferred} {rd : Option Nat} {Q : QP} {I : Nat → Heap → Prop} {m : Nat} (m' : Nat) {v : Value} {h : Heap} {x4 x6 x9 x10 x11 x12 x13 x14 x15 : Value} (hm : m' < m) (hi : I m'  h) : loopQ (zqQ_l0_J f0 f1 f2 f3 f5 f7 f8 ds rd I) m Q .normal ⟨[f0, f1, f2, f3, x4, f5, x6, f7, f8, x9, x10, x11, x12, x13, x14, x15], ds, h, rd⟩ :=
 loopQ.again m' hm ⟨h, _, _, _, _, _, _, _, _, _, rfl, hi⟩
abbrev fn_zsQ : FuncId := 162
def zsQ_c : ACode :=
 (.seq (.region [
 o1 2 (.mov (.const (.bool false)))]) (.seq (.region [
 o1 3 (.mov (tm 0)),
 o1 4 (.bin .geq (so (.binOp .geq 21 (tm 3) (.const (.int .i32 97)) 21) 4) (tm 3) (.const (.int .i32 97))),
 o1 5 (.mov (tm 4)),
 o4 6 (.mov (tm 0)) 5,
 o4 7 (.bin .leq (so (.binOp .leq 21 (tm 6) (.const (.int .i32 122)) 21) 4) (tm 6) (.const (.int .i32 122))) 5,
 o1 8 (.pick (tm 5) (tm 7) (.const (.bool false))),
 o1 9 (.mov (tm 8)),
 o5 10 (.mov (tm 0)) 9,
 o5 11 (.bin .geq (so (.binOp .geq 21 (tm 10) (.const (.int .i32 48)) 21) 4) (tm 10) (.const (.int .i32 48))) 9,
 o5 12 (.mov (tm 11)) 9,
 o4 13 (.mov (tm 0)) 12,
 o4 14 (.bin .leq (so (.binOp .leq 21 (tm 13) (.const (.int .i32 57)) 21) 4) (tm 13) (.const (.int .i32 57))) 12,
 o5 15 (.pick (tm 12) (tm 14) (.const (.bool false))) 9,
 o1 16 (.pick (tm 9) (.const (.bool true)) (tm 15)),
 o1 17 (.mov (tm 16)),
 o5 18 (.mov (tm 0)) 17,
 o5 19 (.bin .eql (so (.binOp .eql 21 (tm 18) (.const (.int .i32 45)) 21) 4) (tm 18) (.const (.int .i32 45))) 17,
 o1 20 (.pick (tm 17) (.const (.bool true)) (tm 19)),
 o1 2 (.mov (tm 20))]) .ret))
def zsQ : AFunc := ⟨21, [(2, none)], zsQ_c, none⟩
theorem zsQ_t0 : tableOf Tryz.prog 162 = some zsQ := by kernel_rfl
theorem zsQ_t : T0 162 = some zsQ := withKept_t rfl (withTrue_t rfl zsQ_t0)
theorem zsQ_runs {v0 : Value} {h : Heap} {R : RP} {X : XP} (k : RunC Tryz.prog T0 zsQ_c ⟨[v0, U, U, U, U, U, U, U, U, U, U, U, U, U, U, U, U, U, U, U, U], [], h, none⟩ (bodyQ Tryz.prog T0 [(2, none)] R X)) :
 Runs Tryz.prog T0 (.fn 162) [v0] h R X := Runs.fn zsQ_t rfl k
abbrev fn_zncQ : FuncId := 183
def zncQ_c : ACode :=
 (.seq (.region [
 o1 2 (.box 168 (tm 0)),
 o1 4 (.mov k0)]) (.seq (.seq (.region [
 o1 5 (.fieldAddr 0 (tm 2)),
 o1 6 (.load none (tm 5)),
 o1 7 (.callV (.func 36) [(tm 6)]),
 o1 8 (.raw (so (.unOp .not 4 (tm 7)) 4)),
 o1 9 (.mov (tm 8)),
 o5 10 (.fieldAddr 1 (tm 2)) 9,
 o5 11 (.load none (tm 10)) 9,
 o5 12 (.callV (.func 37) [(tm 11)]) 9,
 o5 13 (.raw (so (.unOp .not 4 (tm 12)) 4)) 9,
 o1 14 (.pick (tm 9) (.const (.bool true)) (tm 13))]) (.cond (tm 14)
 (.seq (.region [
 o1 4 (.mov (.const (.int .i64 3)))]) .ret)
 .skip)) (.seq (.region [
 o1 15 (.mov (tm 1)),
 o1 16 (.callV (.func 107) [(tm 15), (.const (.int .i64 1))])]) (.seq (.region [
 o1 17 (.mov (tm 1)),
 o1 18 (.fieldAddr 0 (tm 2)),
 o1 19 (.load none (tm 18)),
 o1 20 (.callV (.func 107) [(tm 17), (tm 19)])]) (.seq (.region [
 o1 21 (.mov (tm 1)),
 o1 22 (.fieldAddr 1 (tm 2)),
 o1 23 (.load none (tm 22)),
 o1 24 (.callV (.func 107) [(tm 21), (tm 23)]),
 o1 4 (.mov (tm 24))]) .ret)))))
def zncQ : AFunc := ⟨25, [(4, none)], zncQ_c, none⟩
theorem zncQ_t0 : tableOf Tryz.prog 183 = some zncQ := by kernel_rfl
theorem zncQ_t : T0 183 = some zncQ := withKept_t rfl (withTrue_t rfl zncQ_t0)
theorem zncQ_runs {v0 v1 : Value} {h : Heap} {R : RP} {X : XP} (k : RunC Tryz.prog T0 zncQ_c ⟨[v0, v1, U, U, U, U, U, U, U, U, U, U, U, U, U, U, U, U, U, U, U, U, U, U, U], [], h, none⟩ (bodyQ Tryz.prog T0 [(4, none)] R X)) :
 Runs Tryz.prog T0 (.fn 183) [v0, v1] h R X := Runs.fn zncQ_t rfl k
abbrev fn_zmcQ : FuncId := 184
def zmcQ_c : ACode :=
 (.seq (.region [
 o1 2 (.box 169 (tm 0)),
 o1 4 (.mov k0)]) (.seq (.seq (.region [
 o1 7 (.fieldAddr 0 (tm 2)),
 o1 8 (.load none (tm 7)),
 o1 9 (.callV (.func 36) [(tm 8)]),
 o1 10 (.raw (so (.unOp .not 4 (tm 9)) 4))]) (.cond (tm 10)
 (.seq (.region [
 o1 4 (.mov (.const (.int .i64 3)))]) .ret)
 .skip)) (.seq (.region [
 o1 12 (.fieldAddr 1 (tm 2)),
 o1 13 (.load (some 166) (tm 12)),
 o1 14 (.callV (.func 28) [(tm 13)]),
 o1 11 (.mov (tm 14)),
 o1 15 (.extract 0 (tm 11)),
 o1 16 (.extract 1 (tm 11)),
 o1 5 (.mov (tm 15)),
 o1 6 (.mov (tm 16))]) (.seq (.seq (.region [
 o1 17 (.mov (tm 6)),
 o1 18 (.bin .neq (so (.binOp .neq 41 (tm 17) k0 41) 4) (tm 17) k0)]) (.cond (tm 18)
 (.seq (.region [
 o1 19 (.mov (tm 6)),
 o1 4 (.mov (tm 19))]) .ret)
 .skip)) (.seq (.region [
 o1 20 (.mov (tm 1)),
 o1 21 (.callV (.func 107) [(tm 20), (.const (.int .i64 2))])]) (.seq (.region [
 o1 22 (.mov (tm 1)),
 o1 23 (.fieldAddr 0 (tm 2)),
 o1 24 (.load none (tm 23)),
 o1 25 (.callV (.func 107) [(tm 22), (tm 24)])]) (.seq (.region [
 o1 26 (.mov (tm 1)),
 o1 27 (.mov (tm 5)),
 o1 28 (.callV (.func 69) [(tm 26), (tm 27)]),
 o1 4 (.mov (tm 28))]) .ret)))))))
def zmcQ : AFunc := ⟨29, [(4, none)], zmcQ_c, none⟩
theorem zmcQ_t0 : tableOf Tryz.prog 184 = some zmcQ := by kernel_rfl
theorem zmcQ_t : T0 184 = some zmcQ := withKept_t rfl (withTrue_t rfl zmcQ_t0)
theorem zmcQ_runs {v0 v1 : Value} {h : Heap} {R : RP} {X : XP} (k : RunC Tryz.prog T0 zmcQ_c ⟨[v0, v1, U, U, U, U, U, U, U, U, U, U, U, U, U, U, U, U, U, U, U, U, U, U, U, U, U, U, U], [], h, none⟩ (bodyQ Tryz.prog T0 [(4, none)] R X)) :
 Runs Tryz.prog T0 (.fn 184) [v0, v1] h R X := Runs.fn zmcQ_t rfl k
end Go.Proofs.YtninaabbojcdpaaGreat.A

namespace Go.Proofs.YtninaabbojcdpaaGreat.A
open Go Go.Vm
set_option maxRecDepth 10000
set_option linter.unusedVariables false
end Go.Proofs.YtninaabbojcdpaaGreat.A

namespace Go.Proofs.YtninaabbojcdpaaGreat.A
open Go Go.Vm
set_option maxRecDepth 10000
set_option linter.unusedVariables false
theorem Clone_ok {h : Heap} {v : Value} {l : List UInt8} (hr : Rd h 1 v (bcells l) l.length) (hs : l.length < 1048576) :
    Runs Tryz.prog T0 (.fn fn_zscQ) [v] h
      (fun r h' => Own h' 1 r (bcells l) l.length ∧ Fr (fun _ => False) h h' ∧ ∀ i, ownedBy r i → h.n ≤ i) (fun _ _ => False) := by
  have hnew := hr.new
  obtain ⟨a, cap, rfl, hlen, hc⟩ := hr
  refine zscQ_runs ?_
  cases a with
  | none =>
    have hl : l = [] := by
      cases l with
      | nil => rfl
      | cons b l => obtain ⟨_, _, _, h1, _⟩ := hc (by simp); cases h1
    subst hl
    refine stp ?_
    exact ⟨.none, Fr.refl, fun i hi => hi.elim⟩
  | some a =>
    refine stp ?_
    have hz : Own (h.push (.cells [] 0)) 1 (.slice (some ⟨h.n, 0, none⟩) 0 0) [] 0 := .lit (by simp) (by rw [Heap.get_push, if_pos rfl])
    have hnew' := ((Rd.keep (S := fun _ => False) ⟨some a, cap, rfl, hlen, hc⟩ (Fr.refl.push (o := .cells [] 0)) fun _ _ => id).new (size := 1)) [.int .u8 0]
    refine O.append hz hnew' hlen (bcells_one l) (by omega) (by omega) (by omega) (fun v' h' h1 h2 h3 => ?_)
    refine stp ?_
    rw [Nat.zero_add, List.nil_append] at h1
    refine ⟨h1, (Fr.refl.push (o := .cells [] 0)).trans (S := fun _ => False) h2 (fun i hi ho => ?_), fun i hi => ?_⟩
    · have : h.n = i := ho
      omega
    · rcases h3 i hi with h4 | h4
      · have : h.n = i := h4
        omega
      · simp at h4; omega
end Go.Proofs.YtninaabbojcdpaaGreat.A

namespace Go.Proofs.YtninaabbojcdpaaGreat.A
open Go Go.Vm
set_option maxRecDepth 10000
set_option linter.unusedVariables false
end Go.Proofs.YtninaabbojcdpaaGreat.A

namespace Go.Proofs.YtninaabbojcdpaaGreat.A
open Go Go.Vm
set_option maxRecDepth 10000
set_option linter.unusedVariables false
theorem l32 {l : List UInt8} (h : l.length = 32) : L32 (bcells l) := ⟨by simpa [bcells] using h⟩
end Go.Proofs.YtninaabbojcdpaaGreat.A

namespace Go.Proofs.YtninaabbojcdpaaGreat.A
open Go Go.Vm
set_option maxRecDepth 10000
set_option linter.unusedVariables false
def beN (n : Nat) : List UInt8 := if h : n = 0 then [] else beN (n / 256) ++ [UInt8.ofNat (n % 256)]
  termination_by n
  decreasing_by omega
theorem beN_zero : beN 0 = [] := by unfold beN; simp
theorem beN_pos {n : Nat} (h : n ≠ 0) : beN n = beN (n / 256) ++ [UInt8.ofNat (n % 256)] := by rw [beN]; rw [dif_neg h]
def numF (n : Nat) : List UInt8 := UInt8.ofNat (beN n).length :: beN n
theorem beN_len : ∀ (k n : Nat), n < 256 ^ k → (beN n).length ≤ k
  | 0, n, h => by
    obtain rfl : n = 0 := by simpa using h
    rw [beN_zero]; simp
  | k + 1, n, h => by
    by_cases h0 : n = 0
    · subst h0; rw [beN_zero]; simp
    · rw [beN_pos h0, List.length_append]
      have : n / 256 < 256 ^ k := Nat.div_lt_of_lt_mul (by rw [Nat.pow_succ] at h; omega)
      have := beN_len k _ this
      simp; omega
theorem u8nat {n : Nat} (h : n < 256) : (UInt8.ofNat n).toNat = n := by
  rw [UInt8.toNat_ofNat']
  exact Nat.mod_eq_of_lt h
theorem number_ok {h : Heap} {N : Nat} (hN : N ≤ 9223372036854775807) :
    Runs Tryz.prog T0 (.fn fn_zhdQ) [.int .i64 N] h (fun r h' => Rd h' 1 r (bcells (numF N)) (numF N).length ∧ (∀ i, blockOf r i → h.n ≤ i) ∧ Fr (fun _ => False) h h') (fun _ _ => False) := by
  refine zhdQ_runs ?_
  refine stp ?_
  refine zhdQ_l0_rule (fun m v0 v4 h' => ∃ (n k : Nat) (c : List Value) (ds : List UInt8), n = m ∧ v0 = .int .i64 n ∧ v4 = .int .i64 k ∧ k ≤ 8 ∧ n < 256 ^ (8 - k) ∧ n ≤ N ∧ h' = h.push (.cells c 0) ∧ c.length = 9 ∧ ds.length = k ∧ c.drop (9 - k) = bcells ds ∧ beN N = beN n ++ ds) ?_ N
    ⟨N, 0, _, [], rfl, rfl, rfl, by omega, by simp; omega, Nat.le_refl _, rfl, rfl, rfl, rfl, by simp⟩
  rintro m v0 v4 h' x5 x6 x7 x8 x9 x10 x11 x12 x13 x14 x15 ⟨n, k, c, ds, hnm, rfl, rfl, hk, hn, hnN, rfl, hc, hds, hd, hbe⟩
  subst hnm
  refine stp ?_
  refine C.if (fun hpos => ?_) (fun hz => ?_)
  · have hk8 : k < 8 := by
      rcases Nat.lt_or_ge k 8 with h | h
      · exact h
      · obtain rfl : k = 8 := by omega
        simp at hn; omega
    have h256 : n % 256 < 256 := Nat.mod_lt _ (by omega)
    have hw : (IntKind.wrap .u8 (n : Int)) = (((UInt8.ofNat (n % 256)).toNat : Nat) : Int) := by
      rw [wrap_u8, u8nat h256]
      omega
    refine stp ?_
    have h8 : ((8 : Int) - (k : Int)).toNat = 8 - k := by omega
    rw [hw, h8]
    simp only [Nat.zero_add, Nat.mul_one]
    refine O.by0 (XOp.mkStore1 (P := Tryz.prog) (h := h.push (.cells c 0)) (c := c) (r := h.n) (o := 8 - k) (v := .int .u8 (UInt8.ofNat (n % 256)).toNat) (sp := none) (by omega)).eq rfl ?_
    refine stp ?_
    refine O.how XOp.shr8 ?_
    refine stp ?_
    have hdiv : ((n : Int) / 256) = ((n / 256 : Nat) : Int) := by omega
    rw [hdiv, Heap.push_set]
    refine zhdQ_l0_again (n / 256) (by omega) ⟨n / 256, k + 1, lset c (8 - k) (.int .u8 (UInt8.ofNat (n % 256)).toNat), UInt8.ofNat (n % 256) :: ds, rfl, rfl, by simp, by omega, ?_, by omega, rfl, by rw [lset_len]; exact hc, by simp [hds], ?_, ?_⟩
    · have : 256 ^ (8 - k) = 256 ^ (8 - (k + 1)) * 256 := by rw [← Nat.pow_succ]; congr 1; omega
      exact Nat.div_lt_of_lt_mul (by omega)
    · rw [show 9 - (k + 1) = 8 - k from by omega, lset_drop _ _ _ (by omega), show 8 - k + 1 = 9 - k from by omega, hd]
      rfl
    · rw [hbe, beN_pos (by omega)]
      simp
  · have hn0 : n = 0 := by omega
    subst hn0
    rw [beN_zero, List.nil_append] at hbe
    have hw : (k : Int) = (((UInt8.ofNat k).toNat : Nat) : Int) := by
      rw [u8nat (by omega)]
    refine stp ?_
    have h8 : ((8 : Int) - (k : Int)).toNat = 8 - k := by omega
    rw [h8]
    simp only [Nat.zero_add, Nat.mul_one]
    refine O.by0 (XOp.mkStore1 (P := Tryz.prog) (h := h.push (.cells c 0)) (c := c) (r := h.n) (o := 8 - k) (v := .int .u8 k) (sp := none) (by omega)).eq rfl ?_
    refine stp ?_
    rw [Heap.push_set]
    refine O.how (XOp.mkSliceArrLo (8 - k) (by omega) (by omega)) ?_
    refine stp ?_
    rw [show 9 - (8 - k) = k + 1 from by omega, Nat.zero_add, Nat.mul_one]
    have hlen : (numF N).length = k + 1 := by simp [numF, hbe, hds]
    refine ⟨?_, fun i hi => by rw [← hi.1]; exact Nat.le_refl _, Fr.refl.push⟩
    rw [hlen]
    refine Rd.mk (by simp) ?_
    rw [cellsAt_of (c := lset c (8 - k) (.int .u8 k)) (by rw [Heap.get_push, if_pos rfl]; rfl) (by rw [lset_len]; omega), lset_drop _ _ _ (by omega), show 8 - k + 1 = 9 - k from by omega, hd]
    congr 1
    rw [List.take_of_length_le (by simp [bcells, hds])]
    unfold numF
    rw [hbe, hds]
    show _ :: _ = Value.int .u8 ((UInt8.ofNat k).toNat : Nat) :: _
    rw [u8nat (by omega)]
    rfl
end Go.Proofs.YtninaabbojcdpaaGreat.A

namespace Go.Proofs.YtninaabbojcdpaaGreat.A
open Go Go.Vm
set_option maxRecDepth 10000
set_option linter.unusedVariables false
theorem repeatL_len (n : Nat) : (repeatL [.int .u8 0] n).length = n := by
  induction n with
  | zero => rfl
  | succ n ih => simp [repeatL, ih]
theorem Grow_ok {h : Heap} {n : Nat} (hn : n < 1048576) :
    Runs Tryz.prog T0 (.fn fn_zucQ) [.slice none 0 0, .int .i64 n] h (fun r h' => Own h' 1 r [] 0 ∧ (∀ i, ownedBy r i → h.n ≤ i) ∧ Fr (fun _ => False) h h') (fun _ _ => False) := by
  refine zucQ_runs ?_
  refine stp ?_
  refine C.if (fun hpos => ?_) (fun hz => ?_)
  · rw [show ((n : Int) - (((0 : Nat) : Int) - ((0 : Nat) : Int))) = (n : Int) from by omega]
    refine stp ?_
    refine O.by (v := .slice none 0 0) (h' := h) (by rfl) rfl ?_
    refine stp ?_
    have hx : appendOf 1 1 [.int .u8 0] true (.slice none 0 0) (.int .i64 (n : Int)) h = .ok (.slice (some ⟨h.n, 0, some 0⟩) n n) (h.push (.cells (repeatL [.int .u8 0] n) 1)) := by
      unfold appendOf newCells
      rw [if_neg (by omega)]
      simp only [Bool.true_and, show (decide ((0 : Int) ≤ (n : Int))) = true from by simp, if_true, Int.toNat_natCast, Nat.zero_add]
      rw [if_neg (by omega), if_neg (by omega), if_neg (by omega)]
    refine O.by hx rfl ?_
    refine stp ?_
    refine O.by (v := .slice (some ⟨h.n, 0, some 0⟩) 0 n) (h' := h.push (.cells (repeatL [.int .u8 0] n) 1)) ?_ rfl ?_
    · show sliceOf _ 1 (.slice (some ⟨h.n, 0, some 0⟩) n n) none (some _) none _ = _
      simp only [sliceOf, bnd, eval, lget]
      rw [show idx (n + 1) (.int .i64 ((0 : Nat) : Int)) = some 0 from idx_in (by omega)]
      simp
    refine stp ?_
    refine ⟨.grown (c := []) (j := repeatL [.int .u8 0] n) (by simp) (by omega) (by omega) rfl (by simp [repeatL_len]) (by rw [Heap.get_push, if_pos rfl]; rfl), fun i hi => by rw [← hi]; exact Nat.le_refl _, Fr.refl.push⟩
  · refine stp ?_
    exact ⟨.none, fun i hi => hi.elim, Fr.refl⟩
def Parts (h : Heap) (ls : List (Value × List UInt8)) : Prop := ∀ p ∈ ls, Rd h 1 p.1 (bcells p.2) p.2.length
theorem Parts.keep {h h' : Heap} {ls : List (Value × List UInt8)} (hp : Parts h ls) (hf : Fr (fun _ => False) h h') : Parts h' ls := fun p hm => (hp p hm).keep hf fun _ _ => id
def flat (ls : List (Value × List UInt8)) : List UInt8 := ls.flatMap (·.2)
theorem flat_take {ls : List (Value × List UInt8)} {k : Nat} (hk : k < ls.length) : flat (ls.take (k + 1)) = flat (ls.take k) ++ ls[k].2 := by
  unfold flat
  rw [List.take_succ_eq_append_getElem hk]
  simp only [List.flatMap_append, List.flatMap_cons, List.flatMap_nil, List.append_nil]
theorem flat_le {ls : List (Value × List UInt8)} (k : Nat) : (flat (ls.take k)).length ≤ (flat ls).length := by
  conv => rhs; rw [← List.take_append_drop k ls]
  unfold flat
  rw [List.flatMap_append]
  simp
theorem lget_map {ls : List (Value × List UInt8)} {k : Nat} (hk : k < ls.length) : lget (ls.map (·.1)) k = ls[k].1 := by
  induction ls generalizing k with
  | nil => simp at hk
  | cons a l ih =>
    cases k with
    | zero => rfl
    | succ k => exact ih (by simpa using hk)
theorem Concat_ok {h : Heap} {v : Value} {ls : List (Value × List UInt8)} (hv : Rd h 1 v (ls.map (·.1)) ls.length) (hp : Parts h ls) (hn : ls.length < 1048576) (hs : (flat ls).length < 1048576) :
    Runs Tryz.prog T0 (.fn fn_ztcQ) [v] h (fun r h' => Own h' 1 r (bcells (flat ls)) (flat ls).length ∧ (∀ i, ownedBy r i → h.n ≤ i) ∧ Fr (fun _ => False) h h') (fun _ _ => False) := by
  have hv' := hv
  obtain ⟨a, cap, rfl, hlen, hc⟩ := hv
  refine ztcQ_runs ?_
  refine stp ?_
  refine ztcQ_l0_rule (fun m v3 v11 h' => ∃ k : Nat, k ≤ ls.length ∧ m = ls.length - k ∧ v3 = .int .i64 (flat (ls.take k)).length ∧ v11 = .int .i64 k ∧ h = h') ?_ ls.length ⟨0, by omega, rfl, rfl, rfl, rfl⟩
  rintro m v3 v11 h' x5 x12 x13 x14 x15 x16 x17 x18 x19 x20 x21 x22 ⟨k, hk, rfl, rfl, rfl, rfl⟩
  refine stp ?_
  refine C.if (fun hlt => ?_) (fun hge => ?_)
  · have hk' : k < ls.length := by omega
    obtain ⟨b, o, sp, rfl, hb, hcc⟩ := hc (by omega)
    rw [Nat.mul_one] at hcc
    haveI := cell_at (k := k) hcc hk'
    rw [lget_map hk'] at this
    haveI := this
    obtain ⟨a1, cap1, hv1, _, _⟩ := hp ls[k] (List.getElem_mem _)
    have hfl := flat_le (ls := ls) (k + 1)
    rw [flat_take hk', List.length_append] at hfl
    refine stp ?_
    rw [hv1]
    refine stp ?_
    refine ztcQ_l0_again (ls.length - (k + 1)) (by omega) ⟨k + 1, by omega, rfl, ?_, rfl, rfl⟩
    rw [flat_take hk', List.length_append]
    rfl
  · obtain rfl : k = ls.length := by omega
    rw [List.take_length]
    refine stp ?_
    refine O.call' (Grow_ok hs) (fun r h1 hr => ?_)
    obtain ⟨ho, hnew, hf⟩ := hr
    refine stp ?_
    refine ztcQ_l1_rule (fun m v6 v27 h' => ∃ k : Nat, k ≤ ls.length ∧ m = ls.length - k ∧ v27 = .int .i64 k ∧ Own h' 1 v6 (bcells (flat (ls.take k))) (flat (ls.take k)).length ∧ (∀ i, ownedBy v6 i → h'.n ≤ i ∨ h.n ≤ i) ∧ Fr (fun _ => False) h h') ?_ ls.length ⟨0, by omega, rfl, rfl, ho, fun i hi => .inr (hnew i hi), hf⟩
    clear ho hnew hf
    rintro m v6 v27 h' x8 x28 x29 x30 x31 x32 x33 x34 ⟨k, hk, rfl, rfl, ho, hnew, hf⟩
    refine stp ?_
    refine C.if (fun hlt => ?_) (fun hge => ?_)
    · have hk' : k < ls.length := by omega
      obtain ⟨b, o, sp, rfl, hb, hcc⟩ := hc (by omega)
      rw [Nat.mul_one, ← cellsAt_keep hf hb id] at hcc
      haveI := cell_at (k := k) hcc hk'
      rw [lget_map hk'] at this
      haveI := this
      have hpk := (hp ls[k] (List.getElem_mem _)).keep hf fun _ _ => id
      have hfl := flat_le (ls := ls) (k + 1)
      rw [flat_take hk', List.length_append] at hfl
      refine stp ?_
      refine O.append ho (hpk.new [.int .u8 0]) (by rw [bcells_len]; omega) (bcells_one _) (by omega) (by omega) (by omega) (fun v' h2 h3 h4 h5 => ?_)
      refine stp ?_
      refine ztcQ_l1_again (ls.length - (k + 1)) (by omega) ⟨k + 1, by omega, rfl, rfl, ?_, fun i hi => ?_, ?_⟩
      · rw [flat_take hk', List.length_append, bcells_append]
        exact h3
      · rcases h5 i hi with h6 | h6
        · rcases hnew i h6 with h7 | h7
          · exact .inr (Nat.le_trans hf.n h7)
          · exact .inr h7
        · exact .inr (Nat.le_trans hf.n h6)
      · refine Fr.trans (S := fun _ => False) hf h4 fun i hi ho' => ?_
        rcases hnew i ho' with h7 | h7
        · have := hf.n; omega
        · omega
    · obtain rfl : k = ls.length := by omega
      rw [List.take_length] at ho
      refine stp ?_
      exact ⟨ho, fun i hi => (hnew i hi).elim (Nat.le_trans hf.n) id, hf⟩
end Go.Proofs.YtninaabbojcdpaaGreat.A

namespace Go.Proofs.YtninaabbojcdpaaGreat.A
open Go Go.Vm
set_option maxRecDepth 10000
set_option linter.unusedVariables false
structure PW (h : Heap) (lo p : Nat) (sv : Value) (bs : List UInt8) (lim : Nat) (e : Int) : Prop where
  lt : p < h.n
  le : lo ≤ p
  get : h.get p = .cells [.int .i64 lim, sv, .int .i64 e, .bool true] 0
  own : Own h 1 sv (bcells bs) bs.length
  apart : ¬ ownedBy sv p
  above : ∀ i, ownedBy sv i → lo ≤ i
  small : bs.length < 1048576
structure WSt where
  bs : List UInt8
  e : Int
structure PWs (h : Heap) (lo p lim : Nat) (st : WSt) : Prop where
  ex : ∃ sv, PW h lo p sv st.bs lim st.e
def putS (lim : Nat) (may : Bool) (part : List UInt8) (st : WSt) : WSt :=
  if st.e ≠ 0 then st else if may = false then ⟨st.bs, 3⟩ else if lim < st.bs.length + part.length then ⟨st.bs, 4⟩ else ⟨st.bs ++ part, 0⟩
theorem PW.keep {S : Nat → Prop} {h h' : Heap} {lo p : Nat} {sv : Value} {bs : List UInt8} {lim : Nat} {e : Int} (hp : PW h lo p sv bs lim e) (hf : Fr S h h') (hs : ¬ S p) (hb : ∀ i, ownedBy sv i → ¬ S i) : PW h' lo p sv bs lim e :=
  ⟨hf.lt hp.lt, hp.le, by rw [hf.get p hp.lt hs, hp.get], hp.own.keep hf hb, hp.apart, hp.above, hp.small⟩
theorem PWs.keep {S : Nat → Prop} {h h' : Heap} {lo p lim : Nat} {st : WSt} (hp : PWs h lo p lim st) (hf : Fr S h h') (hs : ∀ i, S i → i < lo) : PWs h' lo p lim st :=
  let ⟨sv, hw⟩ := hp.ex
  ⟨sv, hw.keep hf (fun h => by have := hs _ h; have := hw.le; omega) fun i hi h => by have := hs _ h; have := hw.above i hi; omega⟩
theorem PWs.none {h h' : Heap} {lo p lim : Nat} {st : WSt} (hp : PWs h lo p lim st) (hf : Fr (fun _ => False) h h') : PWs h' lo p lim st := hp.keep hf fun _ h => h.elim
theorem PWs.lo_le {h : Heap} {lo p lim : Nat} {st : WSt} (hp : PWs h lo p lim st) : lo ≤ h.n := let ⟨_, hw⟩ := hp.ex; Nat.le_of_lt (Nat.lt_of_le_of_lt hw.le hw.lt)
def Writes (h : Heap) (lo p lim : Nat) (st : WSt) (r : Value) (h' : Heap) : Prop := r = .int .i64 st.e ∧ PWs h' lo p lim st ∧ Fr (fun i => lo ≤ i) h h'
theorem put_ok {h : Heap} {lo p lim : Nat} {st : WSt} {may : Bool} {v : Value} {ls : List (Value × List UInt8)} (hw : PWs h lo p lim st) (hv : Rd h 1 v (ls.map (·.1)) ls.length) (hp : Parts h ls) (hn : ls.length < 1048576) (hs : st.bs.length + (flat ls).length < 1048576) :
    Runs Tryz.prog T0 (.fn fn_zgdQ) [.pointer (some ⟨p, 0, none⟩), .bool may, v] h (Writes h lo p lim (putS lim may (flat ls) st)) (fun _ _ => False) := by
  obtain ⟨bs, e⟩ := st
  obtain ⟨sv, hw⟩ := hw.ex
  have hs : bs.length + (flat ls).length < 1048576 := hs
  have hw : PW h lo p sv bs lim e := hw
  have hle := hw.le
  have hlt := hw.lt
  obtain ⟨a0, cap0, rfl, hl0, _⟩ := hw.own.rd
  haveI : HGet h p _ := ⟨hw.get⟩
  refine zgdQ_runs ?_
  refine stp ?_
  refine O.call' (Concat_ok hv hp hn (by omega)) (fun r h1 hr => ?_)
  obtain ⟨ho, hnew, hf⟩ := hr
  obtain ⟨a1, cap1, rfl, hl1, _⟩ := ho.rd
  have hw1 := hw.keep hf id fun _ _ => id
  haveI : HGet h1 p _ := ⟨hw1.get⟩
  have hfl : Fr (fun i => lo ≤ i) h h1 := hf.mono fun _ _ h => h.elim
  refine stp ?_
  refine C.ifN (fun he => ?_) (fun he => ?_)
  · refine stp ?_
    unfold putS
    rw [if_pos (by simpa using he)]
    exact ⟨rfl, ⟨_, hw1⟩, hfl⟩
  · subst he
    refine stp ?_
    cases may with
    | false =>
      refine stp ?_
      unfold putS
      rw [if_neg (by simp), if_pos rfl]
      refine ⟨rfl, ⟨.slice a0 bs.length cap0, by simpa using hw1.lt, hw.le, by rw [Heap.get_set, if_pos rfl], hw1.own.keep (S := fun i => i = p) (Fr.refl.set fun _ => rfl) fun i hi hp => hw1.apart (hp ▸ hi), hw1.apart, hw1.above, hw1.small⟩, hfl.set fun _ => hw.le⟩
    | true =>
      refine stp ?_
      refine C.if (fun hlong => ?_) (fun hfit => ?_)
      · refine stp ?_
        unfold putS
        rw [if_neg (by simp), if_neg (by simp), if_pos (by simp only; omega)]
        refine ⟨rfl, ⟨.slice a0 bs.length cap0, by simpa using hw1.lt, hw.le, by rw [Heap.get_set, if_pos rfl], hw1.own.keep (S := fun i => i = p) (Fr.refl.set fun _ => rfl) fun i hi hp => hw1.apart (hp ▸ hi), hw1.apart, hw1.above, hw1.small⟩, hfl.set fun _ => hw.le⟩
      · refine stp ?_
        refine O.append hw1.own (ho.rd.new [.int .u8 0]) (by rw [bcells_len]; omega) (bcells_one _) (by omega) (by omega) (by omega) (fun v' h2 h3 h4 h5 => ?_)
        obtain ⟨a2, cap2, rfl, hl2, _⟩ := h3.rd
        have hp2 : HGet h2 p _ := h4.keep ⟨hw1.get⟩ hw1.lt hw1.apart
        refine stp ?_
        have hnp : ¬ ownedBy (.slice a2 (bs.length + (flat ls).length) cap2) p := fun hi => by
          rcases h5 p hi with h6 | h6
          · exact hw1.apart h6
          · have := hw1.lt; omega
        unfold putS
        rw [if_neg (by simp), if_neg (by simp), if_neg (by simp only; omega)]
        refine ⟨rfl, ⟨_, by have := h4.lt hw1.lt; simpa using this, hw.le, by rw [Heap.get_set, if_pos rfl], ?_, hnp, fun i hi => ?_, by simp; omega⟩, Fr.set (Fr.trans (S := fun i => lo ≤ i) hfl h4 fun i hi ho' => hw1.above i ho') fun _ => hw.le⟩
        · show Own _ 1 (.slice a2 (bs.length + (flat ls).length) cap2) (bcells (bs ++ flat ls)) (bs ++ flat ls).length
          rw [bcells_append, List.length_append]
          exact h3.keep (S := fun i => i = p) (Fr.refl.set fun _ => rfl) fun i hi hp => hnp (hp ▸ hi)
        · rcases h5 i hi with h6 | h6
          · exact hw1.above i h6
          · have := hw1.lt; omega
end Go.Proofs.YtninaabbojcdpaaGreat.A

namespace Go.Proofs.YtninaabbojcdpaaGreat.A
open Go Go.Vm
set_option maxRecDepth 10000
set_option linter.unusedVariables false
theorem numF_len {n : Nat} (h : n ≤ 9223372036854775807) : (numF n).length ≤ 9 := by
  have := beN_len 8 n (by omega)
  simp [numF]; omega
theorem rd_lit {h : Heap} {c : List Value} {n es : Nat} (hc : c.length = n) : Rd (h.push (.cells c es)) 1 (.slice (some ⟨h.n, 0, none⟩) n n) c n := by
  refine Rd.mk (by simp) ?_
  rw [cellsAt_of (c := c) (by rw [Heap.get_push, if_pos rfl]; rfl) (by omega), List.drop_zero, List.take_of_length_le (by omega)]
theorem WNum_ok {h : Heap} {lo p lim : Nat} {st : WSt} {n : Int} (hw : PWs h lo p lim st) (hn : n ≤ 9223372036854775807) (hs : st.bs.length + 9 < 1048576) :
    Runs Tryz.prog T0 (.fn fn_zddQ) [.pointer (some ⟨p, 0, none⟩), .int .i64 n] h (Writes h lo p lim (putS lim (decide (0 ≤ n)) (numF n.toNat) st)) (fun _ _ => False) := by
  have hlo := hw.lo_le
  refine zddQ_runs ?_
  refine stp ?_
  have hm : (if (0 : Int) > n then 0 else n) = ((n.toNat : Nat) : Int) := by split <;> omega
  rw [hm]
  refine O.call' (number_ok (N := n.toNat) (by omega)) (fun r h1 hr => ?_)
  obtain ⟨hrd, hnew, hf⟩ := hr
  have hw1 := hw.none hf
  have hfl := numF_len (n := n.toNat) (by omega)
  obtain ⟨a1, cap1, rfl, hl1, _⟩ := id hrd
  refine stp ?_
  refine O.call' (put_ok (ls := [(.slice a1 (numF n.toNat).length cap1, numF n.toNat)]) (hw1.none Fr.refl.push) (rd_lit rfl) ?_ (by simp) (by simp [flat]; omega)) (fun r h2 hr => ?_)
  · intro q hq
    simp at hq
    subst hq
    exact hrd.keep (S := fun _ => False) Fr.refl.push fun _ _ => id
  · refine stp ?_
    rw [show flat [(Value.slice a1 (numF n.toNat).length cap1, numF n.toNat)] = numF n.toNat from by simp [flat]] at hr
    exact ⟨hr.1, hr.2.1, Fr.trans (S := fun i => lo ≤ i) (hf.mono fun _ _ h => h.elim) (Fr.trans (S := fun i => lo ≤ i) Fr.refl.push hr.2.2 fun _ _ h => h) fun _ _ h => h⟩
theorem WBytes_ok {h : Heap} {lo p lim : Nat} {st : WSt} {v : Value} {l : List UInt8} (hw : PWs h lo p lim st) (hv : Rd h 1 v (bcells l) l.length) (hs : st.bs.length + l.length + 9 < 1048576) :
    Runs Tryz.prog T0 (.fn fn_zzcQ) [.pointer (some ⟨p, 0, none⟩), v] h (Writes h lo p lim (putS lim true (numF l.length ++ l) st)) (fun _ _ => False) := by
  have hlo := hw.lo_le
  have hv' := hv
  obtain ⟨a0, cap0, rfl, hl0, _⟩ := hv
  refine zzcQ_runs ?_
  refine stp ?_
  refine O.call' (number_ok (N := l.length) (by omega)) (fun r h1 hr => ?_)
  obtain ⟨hrd, hnew, hf⟩ := hr
  have hw1 := hw.none hf
  have hfl := numF_len (n := l.length) (by omega)
  obtain ⟨a1, cap1, rfl, hl1, _⟩ := id hrd
  refine stp ?_
  refine O.call' (put_ok (ls := [(.slice a1 (numF l.length).length cap1, numF l.length), (.slice a0 l.length cap0, l)]) (hw1.none Fr.refl.push) (rd_lit rfl) ?_ (by simp) (by simp [flat]; omega)) (fun r h2 hr => ?_)
  · intro q hq
    simp at hq
    rcases hq with rfl | rfl
    · exact hrd.keep (S := fun _ => False) Fr.refl.push fun _ _ => id
    · exact (hv'.keep hf fun _ _ => id).keep (S := fun _ => False) Fr.refl.push fun _ _ => id
  · refine stp ?_
    rw [show flat [(Value.slice a1 (numF l.length).length cap1, numF l.length), (Value.slice a0 l.length cap0, l)] = numF l.length ++ l from by simp [flat]] at hr
    exact ⟨hr.1, hr.2.1, Fr.trans (S := fun i => lo ≤ i) (hf.mono fun _ _ h => h.elim) (Fr.trans (S := fun i => lo ≤ i) Fr.refl.push hr.2.2 fun _ _ h => h) fun _ _ h => h⟩
theorem bcells_data (s : ByteArray) : (bcells s.data.toList).length = s.size := by simp [bcells]
theorem WText_ok {h : Heap} {lo p lim : Nat} {st : WSt} {s : ByteArray} (hw : PWs h lo p lim st) (hs : st.bs.length + s.size + 9 < 1048576) :
    Runs Tryz.prog T0 (.fn fn_zedQ) [.pointer (some ⟨p, 0, none⟩), .string s] h (Writes h lo p lim (putS lim true (numF s.size ++ s.data.toList) st)) (fun _ _ => False) := by
  have hlo := hw.lo_le
  have hsz : s.data.toList.length = s.size := by simp
  refine zedQ_runs ?_
  refine stp ?_
  refine O.call' (WBytes_ok (l := s.data.toList) (hw.none Fr.refl.push) ?_ (by omega)) (fun r h2 hr => ?_)
  · rw [hsz]
    refine Rd.mk (by simp) ?_
    rw [cellsAt_of (c := bcells s.data.toList) (by rw [Heap.get_push, if_pos rfl]; rfl) (by rw [bcells_data]; omega), List.drop_zero, List.take_of_length_le (by rw [bcells_data]; omega)]
  · refine stp ?_
    rw [hsz] at hr
    exact ⟨hr.1, hr.2.1, Fr.trans (S := fun i => lo ≤ i) Fr.refl.push hr.2.2 fun _ _ h => h⟩
theorem WHash_ok {h : Heap} {lo p lim : Nat} {st : WSt} {l : List UInt8} (hw : PWs h lo p lim st) (hl : l.length = 32) (hs : st.bs.length + 32 < 1048576) :
    Runs Tryz.prog T0 (.fn fn_zbdQ) [.pointer (some ⟨p, 0, none⟩), .agg ⟨bcells l⟩] h (Writes h lo p lim (putS lim true l st)) (fun _ _ => False) := by
  have hlo := hw.lo_le
  haveI := l32 hl
  refine zbdQ_runs ?_
  refine stp ?_
  refine O.call' (put_ok (ls := [(.slice (some ⟨h.n, 0, none⟩) 32 32, l)]) (hw.none Fr.refl.push.push) (rd_lit rfl) ?_ (by simp) (by simp [flat]; omega)) (fun r h2 hr => ?_)
  · intro q hq
    simp at hq
    subst hq
    rw [hl]
    exact (rd_lit (h := h) (c := bcells l) (es := 0) (n := 32) (by simpa [bcells] using hl)).keep (S := fun _ => False) Fr.refl.push fun _ _ => id
  · refine stp ?_
    rw [show flat [(Value.slice (some ⟨h.n, 0, none⟩) 32 32, l)] = l from by simp [flat]] at hr
    exact ⟨hr.1, hr.2.1, Fr.trans (S := fun i => lo ≤ i) Fr.refl.push.push hr.2.2 fun _ _ h => h⟩
theorem NewWriter_ok {h : Heap} {lim : Nat} (hl : lim ≤ 1048576) :
    Runs Tryz.prog T0 (.fn fn_zycQ) [.int .i64 lim] h (fun r h' => r = .tuple ⟨[.pointer (some ⟨h.n, 0, none⟩), .int .i64 0]⟩ ∧ PWs h' h.n h.n lim ⟨[], 0⟩ ∧ Fr (fun _ => False) h h') (fun _ _ => False) := by
  refine zycQ_runs ?_
  refine stp ?_
  refine C.if (fun h1 => by omega) (fun _ => ?_)
  refine stp ?_
  refine ⟨rfl, ⟨.slice none 0 0, by simp, Nat.le_refl _, by rw [Heap.get_push, if_pos rfl], .none, fun h => h, fun i h => h.elim, by simp⟩, Fr.refl.push⟩
theorem Done_ok {h : Heap} {lo p lim : Nat} {st : WSt} (hw : PWs h lo p lim st) :
    Runs Tryz.prog T0 (.fn fn_zadQ) [.pointer (some ⟨p, 0, none⟩)] h
      (fun r h' => ∃ v, r = .tuple ⟨[v, .int .i64 st.e]⟩ ∧ Own h' 1 v (bcells (if st.e = 0 then st.bs else [])) (if st.e = 0 then st.bs else []).length ∧ (∀ i, ownedBy v i → h.n ≤ i) ∧ Fr (fun _ => False) h h') (fun _ _ => False) := by
  obtain ⟨bs, e⟩ := st
  obtain ⟨sv, hw⟩ := hw.ex
  have hw : PW h lo p sv bs lim e := hw
  obtain ⟨a0, cap0, rfl, hl0, _⟩ := hw.own.rd
  haveI : HGet h p _ := ⟨hw.get⟩
  refine zadQ_runs ?_
  refine stp ?_
  refine C.ifN (fun he => ?_) (fun he => ?_)
  · refine stp ?_
    rw [if_neg he]
    exact ⟨_, rfl, .none, fun i h => h.elim, Fr.refl⟩
  · subst he
    refine stp ?_
    refine O.call' (Clone_ok hw.own.rd hw.small) (fun r h1 hr => ?_)
    refine stp ?_
    exact ⟨_, rfl, hr.1, hr.2.2, hr.2.1⟩
end Go.Proofs.YtninaabbojcdpaaGreat.A

namespace Go.Proofs.YtninaabbojcdpaaGreat.A
open Go Go.Vm
set_option maxRecDepth 10000
set_option linter.unusedVariables false
def plainP (c : Int) : Prop := (97 ≤ c ∧ c ≤ 122) ∨ (48 ≤ c ∧ c ≤ 57) ∨ c = 45
instance (c : Int) : Decidable (plainP c) := by unfold plainP; infer_instance
theorem plain_ok {h : Heap} {c : Int} : Runs Tryz.prog T0 (.fn fn_zsQ) [.int .i32 c] h (fun r h' => r = .bool (decide (plainP c)) ∧ h' = h) (fun _ _ => False) := by
  have fin : ∀ {b : Bool}, (b = true ↔ plainP c) → Value.bool b = .bool (decide (plainP c)) := fun {b} hb => by
    congr 1
    by_cases hp : plainP c
    · rw [decide_eq_true hp]; exact hb.2 hp
    · rw [decide_eq_false hp]
      cases b with
      | false => rfl
      | true => exact absurd (hb.1 rfl) hp
  unfold plainP at fin
  refine zsQ_runs ?_
  refine stp ?_
  refine O.dec (fun h1 => ?_) (fun h1 => ?_)
  · refine stp ?_
    refine O.dec (fun h2 => ?_) (fun h2 => ?_)
    · refine stp ?_
      exact ⟨fin (by simp; omega), rfl⟩
    · refine stp ?_
      refine O.dec (fun h3 => ?_) (fun h3 => ?_)
      · refine stp ?_
        refine O.dec (fun h4 => ?_) (fun h4 => ?_)
        · refine stp ?_
          exact ⟨fin (by simp; omega), rfl⟩
        · refine stp ?_
          exact ⟨fin (by simp; omega), rfl⟩
      · refine stp ?_
        exact ⟨fin (by simp; omega), rfl⟩
  · refine stp ?_
    refine O.dec (fun h3 => ?_) (fun h3 => ?_)
    · refine stp ?_
      refine O.dec (fun h4 => ?_) (fun h4 => ?_)
      · refine stp ?_
        exact ⟨fin (by simp; omega), rfl⟩
      · refine stp ?_
        exact ⟨fin (by simp; omega), rfl⟩
    · refine stp ?_
      exact ⟨fin (by simp; omega), rfl⟩
def plainB (b : UInt8) : Bool := decide (plainP (b.toNat : Nat))
theorem each_ok {h : Heap} {l : List UInt8} : Runs Tryz.prog T0 (.fn fn_zqQ) [.string ⟨⟨l⟩⟩, .func (.func fn_zsQ) ⟨[]⟩ ⟨[]⟩] h (fun r h' => r = .bool (l.all plainB) ∧ Fr (fun _ => False) h h') (fun _ _ => False) := by
  refine zqQ_runs ?_
  refine stp ?_
  refine zqQ_l0_rule (v := undef) (fun m h' => ∃ pos : Nat, pos ≤ l.length ∧ m = l.length - pos ∧ h' = h.push (.strIter ⟨⟨l⟩⟩ pos) ∧ (l.take pos).all plainB = true) ?_ l.length ⟨0, by omega, rfl, rfl, by simp⟩
  rintro m h' x4 x6 x9 x10 x11 x12 x13 x14 x15 ⟨pos, hpos, rfl, rfl, hall⟩
  refine stp ?_
  by_cases hlt : pos < l.length
  · have hsz : pos < (ByteArray.mk ⟨l⟩).size := hlt
    refine O.how (XOp.mkNextStr hsz) ?_
    refine stp ?_
    refine O.call' plain_ok (fun r h2 hr => ?_)
    obtain ⟨rfl, rfl⟩ := hr
    refine stp ?_
    have hb : (ByteArray.mk ⟨l⟩)[pos] = l[pos] := rfl
    have htake : l.take (pos + 1) = l.take pos ++ [l[pos]] := List.take_succ_eq_append_getElem hlt
    refine C.ifN (fun hp => ?_) (fun hp => ?_)
    · refine stp ?_
      rw [Heap.push_set]
      refine ⟨?_, Fr.refl.push⟩
      have : plainB l[pos] = false := by
        unfold plainB
        by_cases ha : (l[pos]).toNat < 128
        · rw [decode_ascii _ _ hsz (by rw [hb]; exact ha)] at hp
          exact decide_eq_false (by rw [hb] at hp; exact hp)
        · refine decide_eq_false fun h => ?_
          unfold plainP at h
          omega
      congr 1
      refine (List.all_eq_false.2 ⟨l[pos], List.getElem_mem _, by rw [this]; simp⟩).symm
    · have ha : (l[pos]).toNat < 128 := by
        rcases Nat.lt_or_ge (l[pos]).toNat 128 with h | h
        · exact h
        · have := (decode_high _ _ hsz (by rw [hb]; exact h)).1
          unfold plainP at hp
          omega
      rw [decode_ascii _ _ hsz (by rw [hb]; exact ha)] at hp
      rw [decode_ascii _ _ hsz (by rw [hb]; exact ha)]
      refine stp ?_
      rw [Heap.push_set]
      refine zqQ_l0_again (v := undef) (l.length - (pos + 1)) (by omega) ⟨pos + 1, by omega, rfl, rfl, ?_⟩
      rw [htake, List.all_append, hall]
      simp only [List.all_cons, List.all_nil, Bool.and_true, Bool.true_and]
      exact decide_eq_true (by rw [hb] at hp; exact hp)
  · obtain rfl : pos = l.length := by omega
    refine O.how (XOp.mkNextEnd (s := ⟨⟨l⟩⟩) (pos := l.length) (by show ¬ l.length < l.length; omega)) ?_
    refine stp ?_
    rw [List.take_length] at hall
    rw [hall]
    exact ⟨rfl, Fr.refl.push⟩
def nameS (l : List UInt8) : Bool := decide (1 ≤ l.length) && decide (l.length ≤ 32) && l.all plainB
theorem Name_ok {h : Heap} {l : List UInt8} : Runs Tryz.prog T0 (.fn fn_zpQ) [.string ⟨⟨l⟩⟩] h (fun r h' => r = .bool (nameS l) ∧ Fr (fun _ => False) h h') (fun _ _ => False) := by
  have hsz : (ByteArray.mk ⟨l⟩).size = l.length := rfl
  refine zpQ_runs ?_
  refine stp ?_
  unfold nameS
  refine O.dec (fun h1 => ?_) (fun h1 => ?_)
  · refine stp ?_
    refine O.dec (fun h2 => ?_) (fun h2 => ?_)
    · refine stp ?_
      refine O.callT each_ok (fun r h' hr => ?_)
      obtain ⟨rfl, hf⟩ := hr
      refine stp ?_
      rw [decide_eq_true (show 1 ≤ l.length by omega), decide_eq_true (show l.length ≤ 32 by omega)]
      exact ⟨rfl, hf⟩
    · refine stp ?_
      rw [decide_eq_false (show ¬ l.length ≤ 32 by omega)]
      exact ⟨by simp, Fr.refl⟩
  · refine stp ?_
    rw [decide_eq_false (show ¬ 1 ≤ l.length by omega)]
    exact ⟨by simp, Fr.refl⟩
end Go.Proofs.YtninaabbojcdpaaGreat.A

namespace Go.Proofs.YtninaabbojcdpaaGreat.A
open Go Go.Vm
set_option maxRecDepth 10000
set_option linter.unusedVariables false
structure Hd where
  chain : List UInt8
  height : Int
  time : Int
  prev : List UInt8
  vals : List UInt8
  next : List UInt8
  app : List UInt8
structure Hd.ok (x : Hd) : Prop where
  prev : x.prev.length = 32
  vals : x.vals.length = 32
  next : x.next.length = 32
  app : x.app.length = 32
abbrev Hd.cells (x : Hd) : List Value := .string ⟨⟨x.chain⟩⟩ :: .int .i64 x.height :: .int .i64 x.time :: (bcells x.prev ++ (bcells x.vals ++ (bcells x.next ++ bcells x.app)))
theorem rules1_ok {h : Heap} {x : Hd} (hx : x.ok) : Runs Tryz.prog T0 (.fn fn_zuQ) [.agg ⟨x.cells⟩] h (fun r h' => r = .bool (nameS x.chain) ∧ Fr (fun _ => False) h h') (fun _ _ => False) := by
  refine zuQ_runs ?_
  refine stpP ?_
  refine O.call' Name_ok (fun r h' hr => ?_)
  obtain ⟨rfl, hf⟩ := hr
  refine stpP ?_
  exact ⟨rfl, Fr.trans (S := fun _ => False) Fr.refl.push hf fun _ _ h => h⟩
theorem rules2_ok {h : Heap} {x : Hd} (hx : x.ok) : Runs Tryz.prog T0 (.fn fn_zvQ) [.agg ⟨x.cells⟩] h (fun r h' => r = .bool (decide (1 ≤ x.height ∧ x.height ≤ 1073741824)) ∧ Fr (fun _ => False) h h') (fun _ _ => False) := by
  refine zvQ_runs ?_
  refine stpP ?_
  refine O.dec (fun h1 => ?_) (fun h1 => ?_)
  · refine stpP ?_
    exact ⟨by simp [h1], Fr.refl.push⟩
  · refine stpP ?_
    exact ⟨by simp [h1], Fr.refl.push⟩
theorem rules3_ok {h : Heap} {x : Hd} (hx : x.ok) : Runs Tryz.prog T0 (.fn fn_zwQ) [.agg ⟨x.cells⟩] h (fun r h' => r = .bool (decide (0 ≤ x.time ∧ x.time ≤ 1099511627776)) ∧ Fr (fun _ => False) h h') (fun _ _ => False) := by
  refine zwQ_runs ?_
  refine stpP ?_
  refine O.dec (fun h1 => ?_) (fun h1 => ?_)
  · refine stpP ?_
    exact ⟨by simp [h1], Fr.refl.push⟩
  · refine stpP ?_
    exact ⟨by simp [h1], Fr.refl.push⟩
theorem rules_ok {h : Heap} : Runs Tryz.prog T0 (.fn fn_ztQ) [] h (fun r h' => r = .slice (some ⟨h.n, 0, none⟩) 3 3 ∧ h' = h.push (.cells [.func (.func fn_zuQ) ⟨[]⟩ ⟨[]⟩, .int .i64 5, .func (.func fn_zvQ) ⟨[]⟩ ⟨[]⟩, .int .i64 3, .func (.func fn_zwQ) ⟨[]⟩ ⟨[]⟩, .int .i64 3] 0)) (fun _ _ => False) := by
  refine ztQ_runs (v := undef) ?_
  refine stpP ?_
  exact ⟨rfl, rfl⟩
def checkS (x : Hd) : Int := if nameS x.chain = false then 5 else if ¬ (1 ≤ x.height ∧ x.height ≤ 1073741824) then 3 else if ¬ (0 ≤ x.time ∧ x.time ≤ 1099511627776) then 3 else 0
theorem Check_ok {h : Heap} {x : Hd} (hx : x.ok) : Runs Tryz.prog T0 (.fn fn_znQ) [.agg ⟨x.cells⟩] h (fun r h' => r = .int .i64 (checkS x) ∧ Fr (fun _ => False) h h') (fun _ _ => False) := by
  haveI := l32 hx.prev
  haveI := l32 hx.vals
  haveI := l32 hx.next
  haveI := l32 hx.app
  refine znQ_runs ?_
  refine stpP ?_
  refine O.call' rules_ok (fun r h1 hr => ?_)
  obtain ⟨rfl, rfl⟩ := hr
  refine stpP ?_
  refine znQ_l0_rule (fun m v7 h' => ∃ k : Nat, k ≤ 3 ∧ m = 3 - k ∧ v7 = .int .i64 k ∧ Fr (fun _ => False) ((h.push (.cells x.cells 0)).push (.cells [.func (.func fn_zuQ) ⟨[]⟩ ⟨[]⟩, .int .i64 5, .func (.func fn_zvQ) ⟨[]⟩ ⟨[]⟩, .int .i64 3, .func (.func fn_zwQ) ⟨[]⟩ ⟨[]⟩, .int .i64 3] 0)) h' ∧
    (0 < k → nameS x.chain = true) ∧ (1 < k → 1 ≤ x.height ∧ x.height ≤ 1073741824) ∧ (2 < k → 0 ≤ x.time ∧ x.time ≤ 1099511627776)) ?_ 3 ⟨0, by omega, rfl, rfl, Fr.refl, by omega, by omega, by omega⟩
  rintro m v7 h' x2 x4 x8 x9 x10 x11 x12 x13 x14 x15 x16 x17 x18 ⟨k, hk, rfl, rfl, hf, h1, h2, h3⟩
  have hf0 : Fr (fun _ => False) h h' := Fr.trans (S := fun _ => False) Fr.refl.push.push hf fun _ _ h => h
  haveI : HGet h' h.n _ := hf.keep (b := h.n) (HGet.push (k := BLt.new) (g := HGet.new)) (by simp; omega) id
  haveI : HGet h' (h.push (.cells x.cells 0)).n _ := hf.keep (b := (h.push (.cells x.cells 0)).n) HGet.new (by simp) id
  haveI : BLt h.n h' := ⟨by have := hf.n; simp at this; omega⟩
  haveI : BLt (h.push (.cells x.cells 0)).n h' := ⟨by have := hf.n; simp at this ⊢; omega⟩
  have hend : ∀ {o : AObj} {b : Heap}, Fr (fun _ => False) (h'.push o) b → Fr (fun _ => False) h' b := fun hb => Fr.trans (S := fun _ => False) Fr.refl.push hb fun _ _ h => h
  rcases (show k = 0 ∨ k = 1 ∨ k = 2 ∨ k = 3 by omega) with rfl | rfl | rfl | rfl
  · refine stpP ?_
    rw [Nat.zero_mul]
    refine stpP ?_
    refine O.call' (rules1_ok hx) (fun r h2' hr => ?_)
    obtain ⟨rfl, hf2⟩ := hr
    haveI : HGet h2' h'.n _ := hf2.keep (b := h'.n) HGet.new (by simp) id
    refine stpP ?_
    refine C.ifB (fun hb => ?_) (fun hb => ?_)
    · refine stpP ?_
      unfold checkS
      rw [if_pos (by simpa using hb)]
      exact ⟨rfl, hf0.trans' (hend hf2)⟩
    · refine stpP ?_
      exact znQ_l0_again 2 (by omega) ⟨1, by omega, rfl, rfl, hf.trans' (hend hf2), fun _ => by simpa using hb, by omega, by omega⟩
  · refine stpP ?_
    refine O.call' (rules2_ok hx) (fun r h2' hr => ?_)
    obtain ⟨rfl, hf2⟩ := hr
    haveI : HGet h2' h'.n _ := hf2.keep (b := h'.n) HGet.new (by simp) id
    refine stpP ?_
    refine C.ifN (fun hb => ?_) (fun hb => ?_)
    · refine stpP ?_
      unfold checkS
      rw [if_neg (by rw [h1 (by omega)]; simp), if_pos hb]
      exact ⟨rfl, hf0.trans' (hend hf2)⟩
    · refine stpP ?_
      exact znQ_l0_again 1 (by omega) ⟨2, by omega, rfl, rfl, hf.trans' (hend hf2), fun _ => h1 (by omega), fun _ => hb, by omega⟩
  · refine stpP ?_
    refine O.call' (rules3_ok hx) (fun r h2' hr => ?_)
    obtain ⟨rfl, hf2⟩ := hr
    haveI : HGet h2' h'.n _ := hf2.keep (b := h'.n) HGet.new (by simp) id
    refine stpP ?_
    refine C.ifN (fun hb => ?_) (fun hb => ?_)
    · refine stpP ?_
      unfold checkS
      rw [if_neg (by rw [h1 (by omega)]; simp), if_neg (fun h => h (h2 (by omega))), if_pos hb]
      exact ⟨rfl, hf0.trans' (hend hf2)⟩
    · refine stpP ?_
      exact znQ_l0_again 0 (by omega) ⟨3, by omega, rfl, rfl, hf.trans' (hend hf2), fun _ => h1 (by omega), fun _ => h2 (by omega), fun _ => hb⟩
  · refine stpP ?_
    unfold checkS
    rw [if_neg (by rw [h1 (by omega)]; simp), if_neg (fun h => h (h2 (by omega))), if_neg (fun h => h (h3 (by omega)))]
    exact ⟨rfl, hf0⟩
theorem hashes_ok {h : Heap} {x : Hd} {q : Nat} (hq : h.get q = .cells x.cells 0) (hlt : q < h.n) : Runs Tryz.prog T0 (.fn fn_zrQ) [.pointer (some ⟨q, 0, none⟩)] h
    (fun r h' => r = .agg ⟨[.pointer (some ⟨q, 3, none⟩), .pointer (some ⟨q, 35, none⟩), .pointer (some ⟨q, 67, none⟩), .pointer (some ⟨q, 99, none⟩)]⟩ ∧ Fr (fun _ => False) h h') (fun _ _ => False) := by
  refine zrQ_runs ?_
  refine stpP ?_
  exact ⟨rfl, Fr.refl.push⟩
end Go.Proofs.YtninaabbojcdpaaGreat.A

namespace Go.Proofs.YtninaabbojcdpaaGreat.A
open Go Go.Vm
set_option maxRecDepth 10000
set_option linter.unusedVariables false
def encS (x : Hd) : List UInt8 := numF x.chain.length ++ x.chain ++ numF x.height.toNat ++ numF x.time.toNat ++ x.prev ++ x.vals ++ x.next ++ x.app
theorem putS_fit {lim : Nat} {part : List UInt8} {bs : List UInt8} (h : bs.length + part.length ≤ lim) : putS lim true part ⟨bs, 0⟩ = ⟨bs ++ part, 0⟩ := by
  unfold putS
  rw [if_neg (by simp), if_neg (by simp), if_neg (by simp only; omega)]
theorem checkS_ok {x : Hd} (h : checkS x = 0) : nameS x.chain = true ∧ (1 ≤ x.height ∧ x.height ≤ 1073741824) ∧ (0 ≤ x.time ∧ x.time ≤ 1099511627776) := by
  unfold checkS at h
  split at h
  · cases h
  · rename_i h1
    split at h
    · cases h
    · rename_i h2
      split at h
      · cases h
      · rename_i h3
        exact ⟨by simpa using h1, Classical.not_not.1 h2, Classical.not_not.1 h3⟩
theorem nameS_len {l : List UInt8} (h : nameS l = true) : 1 ≤ l.length ∧ l.length ≤ 32 ∧ l.all plainB = true := by
  unfold nameS at h
  simp only [Bool.and_eq_true, decide_eq_true_eq] at h
  exact ⟨h.1.1, h.1.2, h.2⟩
theorem Encode_ok {h : Heap} {x : Hd} (hx : x.ok) : Runs Tryz.prog T0 (.fn fn_zoQ) [.agg ⟨x.cells⟩] h
    (fun r h' => ∃ v, r = .tuple ⟨[v, .int .i64 (checkS x)]⟩ ∧ Own h' 1 v (bcells (if checkS x = 0 then encS x else [])) (if checkS x = 0 then encS x else []).length ∧ (∀ i, ownedBy v i → h.n ≤ i) ∧ Fr (fun _ => False) h h') (fun _ _ => False) := by
  haveI := l32 hx.prev
  haveI := l32 hx.vals
  haveI := l32 hx.next
  haveI := l32 hx.app
  refine zoQ_runs ?_
  refine stp ?_
  refine O.call' (Check_ok hx) (fun r h1 hr => ?_)
  obtain ⟨rfl, hf1⟩ := hr
  have hn1 := hf1.n
  simp at hn1
  haveI : HGet h1 h.n _ := hf1.keep (b := h.n) HGet.new (by simp) id
  have hf1' : Fr (fun _ => False) h h1 := Fr.trans (S := fun _ => False) Fr.refl.push hf1 fun _ _ h => h
  refine stp ?_
  refine C.ifN (fun hc => ?_) (fun hc => ?_)
  · refine stp ?_
    rw [if_neg hc]
    exact ⟨_, rfl, .none, fun i h => h.elim, hf1'⟩
  · refine stp ?_
    obtain ⟨c1, c2, c3⟩ := checkS_ok hc
    obtain ⟨d1, d2, d3⟩ := nameS_len c1
    have hsz : (ByteArray.mk ⟨x.chain⟩).size = x.chain.length := rfl
    have l1 := numF_len (n := x.chain.length) (by omega)
    have l2 := numF_len (n := x.height.toNat) (by omega)
    have l3 := numF_len (n := x.time.toNat) (by omega)
    have l4 := hx.prev
    have l5 := hx.vals
    have l6 := hx.next
    have l7 := hx.app
    refine O.call' (NewWriter_ok (lim := 65536) (by omega)) (fun r h2 hr => ?_)
    obtain ⟨rfl, hw2, hf2⟩ := hr
    haveI : HGet h2 h.n _ := hf2.keep (b := h.n) inferInstance (by omega) id
    have hlt2 := hf2.n
    refine stp ?_
    refine O.call' (WText_ok hw2 (by simp only [List.length_nil]; omega)) (fun r h3 hr => ?_)
    obtain ⟨rfl, hw3, hf3⟩ := hr
    haveI : HGet h3 h.n _ := hf3.keep (b := h.n) inferInstance (by omega) (by omega)
    have hlt3 := hf3.n
    have e3 : putS 65536 true (numF x.chain.length ++ x.chain) ⟨[], 0⟩ = ⟨numF x.chain.length ++ x.chain, 0⟩ := putS_fit (by simp only [List.length_nil, List.length_append]; omega)
    have hw3 : PWs h3 h1.n h1.n 65536 ⟨numF x.chain.length ++ x.chain, 0⟩ := by rw [← e3]; exact hw3
    refine stp ?_
    refine O.call' (WNum_ok hw3 (by omega) (by simp only [List.length_append]; omega)) (fun r h4 hr => ?_)
    obtain ⟨rfl, hw4, hf4⟩ := hr
    haveI : HGet h4 h.n _ := hf4.keep (b := h.n) inferInstance (by omega) (by omega)
    have hlt4 := hf4.n
    have e4 : putS 65536 (decide (0 ≤ x.height)) (numF x.height.toNat) ⟨numF x.chain.length ++ x.chain, 0⟩ = ⟨numF x.chain.length ++ x.chain ++ numF x.height.toNat, 0⟩ := by
      rw [decide_eq_true (by omega)]
      exact putS_fit (by simp only [List.length_append]; omega)
    have hw4 : PWs h4 h1.n h1.n 65536 ⟨numF x.chain.length ++ x.chain ++ numF x.height.toNat, 0⟩ := by rw [← e4]; exact hw4
    refine stp ?_
    refine O.call' (WNum_ok hw4 (by omega) (by simp only [List.length_append]; omega)) (fun r h5 hr => ?_)
    obtain ⟨rfl, hw5, hf5⟩ := hr
    haveI : HGet h5 h.n _ := hf5.keep (b := h.n) inferInstance (by omega) (by omega)
    have hlt5 := hf5.n
    have e5 : putS 65536 (decide (0 ≤ x.time)) (numF x.time.toNat) ⟨numF x.chain.length ++ x.chain ++ numF x.height.toNat, 0⟩ = ⟨numF x.chain.length ++ x.chain ++ numF x.height.toNat ++ numF x.time.toNat, 0⟩ := by
      rw [decide_eq_true (by omega)]
      exact putS_fit (by simp only [List.length_append]; omega)
    have hw5 : PWs h5 h1.n h1.n 65536 ⟨numF x.chain.length ++ x.chain ++ numF x.height.toNat ++ numF x.time.toNat, 0⟩ := by rw [← e5]; exact hw5
    have g5 : h5.get h.n = .cells x.cells 0 := HGet.eq
    refine stp ?_
    refine O.call' (hashes_ok (x := x) g5 (by omega)) (fun r h6 hr => ?_)
    obtain ⟨rfl, hf6⟩ := hr
    have hw6 := hw5.none hf6
    have hf06 : Fr (fun _ => False) h h6 := by
      refine Fr.trans (S := fun _ => False) (S' := fun i => h1.n ≤ i) hf1' ?_ (fun i hi h => by omega)
      exact Fr.trans (S := fun i => h1.n ≤ i) (S' := fun i => h1.n ≤ i) (hf2.mono fun _ _ h => h.elim) (hf3.trans' (hf4.trans' (hf5.trans' (hf6.mono fun _ _ h => h.elim)))) fun _ _ h => h
    generalize hB : numF x.chain.length ++ x.chain ++ numF x.height.toNat ++ numF x.time.toNat = bb at *
    have hBl : bb.length ≤ 100 := by rw [← hB]; simp only [List.length_append]; omega
    have g6 : h6.get h.n = .cells x.cells 0 := by rw [hf6.get _ (by omega) id, g5]
    have hn6 := hf6.n
    refine stp ?_
    refine zoQ_l0_rule (fun m v31 h' => ∃ (k : Nat) (c : List UInt8), k ≤ 4 ∧ m = 4 - k ∧ v31 = .int .i64 k ∧ PWs h' h1.n h1.n 65536 ⟨bb ++ c, 0⟩ ∧ Fr (fun i => h1.n ≤ i) h6 h' ∧
      c = ([x.prev, x.vals, x.next, x.app].take k).flatten) ?_ 4 ⟨0, [], by omega, rfl, rfl, by simpa using hw6, Fr.refl, rfl⟩
    rintro m v31 h' x8 x32 x33 x34 x35 x36 x37 x38 x39 ⟨k, c, hk, rfl, rfl, hw, hf, hc'⟩
    haveI : HGet h' h.n (.cells x.cells 0) := hf.keep (b := h.n) ⟨g6⟩ (by omega) (by omega)
    have hone : ∀ {l : List UInt8} {h2 : Heap}, Fr (fun i => h1.n ≤ i) h' h2 → Fr (fun i => h1.n ≤ i) h6 h2 := fun hx => hf.trans' hx
    rcases (show k = 0 ∨ k = 1 ∨ k = 2 ∨ k = 3 ∨ k = 4 by omega) with rfl | rfl | rfl | rfl | rfl
    · have hcl : c.length = 0 := by rw [hc']; simp
      refine stp ?_
      refine O.how (XOp.mkIndex1 (m := 0) 0 rfl (by omega) rfl) ?_
      refine stp ?_
      refine O.call' (WHash_ok hw l4 (by simp only [List.length_append]; omega)) (fun r h7 hr => ?_)
      obtain ⟨rfl, hw7, hf7⟩ := hr
      rw [putS_fit (by simp only [List.length_append]; omega)] at hw7
      refine stp ?_
      exact zoQ_l0_again 3 (by omega) ⟨1, c ++ x.prev, by omega, rfl, rfl, by rw [← List.append_assoc]; exact hw7, hf.trans' hf7, by rw [hc']; simp⟩
    · have hcl : c.length = 32 := by rw [hc']; simp [l4]
      refine stp ?_
      refine O.how (XOp.mkIndex1 (m := 1) 1 rfl (by omega) rfl) ?_
      refine stp ?_
      refine O.call' (WHash_ok hw l5 (by simp only [List.length_append]; omega)) (fun r h7 hr => ?_)
      obtain ⟨rfl, hw7, hf7⟩ := hr
      rw [putS_fit (by simp only [List.length_append]; omega)] at hw7
      refine stp ?_
      exact zoQ_l0_again 2 (by omega) ⟨2, c ++ x.vals, by omega, rfl, rfl, by rw [← List.append_assoc]; exact hw7, hf.trans' hf7, by rw [hc']; simp⟩
    · have hcl : c.length = 64 := by rw [hc']; simp [l4, l5]
      refine stp ?_
      refine O.how (XOp.mkIndex1 (m := 2) 2 rfl (by omega) rfl) ?_
      refine stp ?_
      refine O.call' (WHash_ok hw l6 (by simp only [List.length_append]; omega)) (fun r h7 hr => ?_)
      obtain ⟨rfl, hw7, hf7⟩ := hr
      rw [putS_fit (by simp only [List.length_append]; omega)] at hw7
      refine stp ?_
      exact zoQ_l0_again 1 (by omega) ⟨3, c ++ x.next, by omega, rfl, rfl, by rw [← List.append_assoc]; exact hw7, hf.trans' hf7, by rw [hc']; simp⟩
    · have hcl : c.length = 96 := by rw [hc']; simp [l4, l5, l6]
      refine stp ?_
      refine O.how (XOp.mkIndex1 (m := 3) 3 rfl (by omega) rfl) ?_
      refine stp ?_
      refine O.call' (WHash_ok hw l7 (by simp only [List.length_append]; omega)) (fun r h7 hr => ?_)
      obtain ⟨rfl, hw7, hf7⟩ := hr
      rw [putS_fit (by simp only [List.length_append]; omega)] at hw7
      refine stp ?_
      exact zoQ_l0_again 0 (by omega) ⟨4, c ++ x.app, by omega, rfl, rfl, by rw [← List.append_assoc]; exact hw7, hf.trans' hf7, by rw [hc']; simp⟩
    · refine stp ?_
      refine O.call' (Done_ok hw) (fun r h7 hr => ?_)
      obtain ⟨v, rfl, ho, hnew, hf7⟩ := hr
      refine stp ?_
      rw [hc] at *
      rw [if_pos rfl]
      have he : encS x = bb ++ c := by
        rw [hc', ← hB]
        simp [encS]
      rw [he]
      refine ⟨v, rfl, by simpa using ho, fun i hi => ?_, Fr.trans (S := fun _ => False) (S' := fun i => h1.n ≤ i) hf06 (hf.trans' (hf7.mono fun _ _ h => h.elim)) fun i hi h => by omega⟩
      have := hnew i hi
      have := hf.n
      omega
end Go.Proofs.YtninaabbojcdpaaGreat.A

namespace Go.Proofs.YtninaabbojcdpaaGreat.A
open Go Go.Vm
set_option maxRecDepth 10000
set_option linter.unusedVariables false
theorem under9 : Tryz.prog.underlying 9 = some .string := by kernel_rfl
theorem all_take {l : List UInt8} {k : Nat} (hk : k < l.length) (ha : (l.take k).all plainB = true) (hb : plainP ((l.getD k 0).toNat : Nat)) : (l.take (k + 1)).all plainB = true := by
  rw [take_succ_getD hk, List.all_append, ha]
  simp only [List.all_cons, List.all_nil, Bool.and_true, Bool.true_and]
  exact decide_eq_true hb
theorem all_not {l : List UInt8} {k : Nat} (hk : k < l.length) (hb : ¬ plainP ((l.getD k 0).toNat : Nat)) : nameS l = false := by
  have : l.all plainB = false := by
    refine List.all_eq_false.2 ⟨l.getD k 0, ?_, ?_⟩
    · rw [List.getD_eq_getElem?_getD, List.getElem?_eq_getElem hk]
      exact List.getElem_mem hk
    · intro h
      exact hb (of_decide_eq_true h)
  unfold nameS
  rw [this]
  simp
set_option maxHeartbeats 2000000 in
theorem RName_ok {h : Heap} {l : List UInt8} (hs : l.length < 1048576) : Runs Tryz.prog T0 (.fn fn_zacQ) [.string ⟨⟨l⟩⟩] h (fun r h' => r = .bool (nameS l) ∧ h' = h) (fun _ _ => False) := by
  have hsz : (ByteArray.mk ⟨l⟩).size = l.length := rfl
  refine zacQ_runs ?_
  refine stpDP ?_
  refine zacQ_l0_rule (fun m v3 h' => ∃ k : Nat, k ≤ l.length ∧ m = l.length - k ∧ v3 = .int .i64 k ∧ (l.take k).all plainB = true ∧ h = h') ?_ l.length ⟨0, by omega, rfl, rfl, by simp, rfl⟩
  rintro m v3 h' x2 x4 x5 x6 x7 x8 x9 x10 x11 x12 x13 x14 x15 x16 x17 x18 x19 x20 x21 x22 x23 x24 x25 x26 x27 x28 x29 x30 x31 ⟨k, hk, rfl, rfl, hall, rfl⟩
  refine stpDP ?_
  refine C.if (fun hlt => ?_) (fun hge => ?_)
  · rw [hsz] at hlt
    have hk' : k < l.length := by omega
    refine stpDP ?_
    refine O.how (XOp.mkIndexStr (l := l) (k := k) under9 rfl hk') ?_
    have hgood : ∀ {hp : plainP ((l.getD k 0).toNat : Nat)}, (l.take (k + 1)).all plainB = true := fun {hp} => all_take hk' hall hp
    have hbad : ¬ plainP ((l.getD k 0).toNat : Nat) → Value.bool false = .bool (nameS l) := fun hp => by rw [all_not hk' hp]
    generalize hb : (((l.getD k 0).toNat : Nat) : Int) = b at *
    unfold plainP at hbad hgood
    refine stpDP ?_
    refine O.dec (fun h1 => ?_) (fun h1 => ?_)
    · refine stpDP ?_
      refine O.dec (fun h3 => ?_) (fun h3 => ?_)
      · refine stpDP ?_
        refine C.ifN (fun h5 => ?_) (fun h5 => ?_)
        · refine stpDP ?_
          exact ⟨hbad (by omega), rfl⟩
        · refine stpDP ?_
          exact zacQ_l0_again (l.length - (k + 1)) (by omega) ⟨k + 1, by omega, rfl, rfl, hgood (hp := by omega), rfl⟩
      · refine stpDP ?_
        refine O.dec (fun h4 => ?_) (fun h4 => ?_)
        · refine stpDP ?_
          refine C.ifN (fun h5 => ?_) (fun h5 => ?_)
          · refine stpDP ?_
            exact ⟨hbad (by omega), rfl⟩
          · exfalso; omega
        · refine stpDP ?_
          exact zacQ_l0_again (l.length - (k + 1)) (by omega) ⟨k + 1, by omega, rfl, rfl, hgood (hp := by omega), rfl⟩
    · refine stpDP ?_
      refine O.dec (fun h2 => ?_) (fun h2 => ?_)
      · refine stpDP ?_
        refine O.dec (fun h3 => ?_) (fun h3 => ?_)
        · exfalso; omega
        · refine stpDP ?_
          refine O.dec (fun h4 => ?_) (fun h4 => ?_)
          · refine stpDP ?_
            refine C.ifN (fun h5 => ?_) (fun h5 => ?_)
            · refine stpDP ?_
              exact ⟨hbad (by omega), rfl⟩
            · exfalso; omega
          · exfalso; omega
      · refine stpDP ?_
        exact zacQ_l0_again (l.length - (k + 1)) (by omega) ⟨k + 1, by omega, rfl, rfl, hgood (hp := by omega), rfl⟩
  · rw [hsz] at hge
    obtain rfl : k = l.length := by omega
    rw [List.take_length] at hall
    unfold nameS
    rw [hall]
    refine stpDP ?_
    refine O.dec (fun h1 => ?_) (fun h1 => ?_)
    · refine stpDP ?_
      rw [hsz] at h1
      rw [hsz, decide_eq_true (show 1 ≤ l.length by omega)]
      refine ⟨?_, rfl⟩
      simp only [Bool.true_and, Bool.and_true]
      congr 1
      exact decide_eq_decide.2 (by omega)
    · refine stpDP ?_
      rw [hsz] at h1
      rw [decide_eq_false (show ¬ 1 ≤ l.length by omega)]
      exact ⟨by simp, rfl⟩
set_option maxHeartbeats 2000000 in
theorem RCheck_ok {h : Heap} {x : Hd} (hx : x.ok) (hs : x.chain.length < 1048576) : Runs Tryz.prog T0 (.fn fn_zybQ) [.agg ⟨x.cells⟩] h (fun r h' => r = .int .i64 (checkS x) ∧ Fr (fun _ => False) h h') (fun _ _ => False) := by
  haveI := l32 hx.prev
  haveI := l32 hx.vals
  haveI := l32 hx.next
  haveI := l32 hx.app
  refine zybQ_runs ?_
  refine stpDP ?_
  refine O.call' (RName_ok hs) (fun r h1 hr => ?_)
  obtain ⟨rfl, rfl⟩ := hr
  unfold checkS
  refine stpDP ?_
  refine C.ifB (fun h1 => ?_) (fun h1 => ?_)
  · refine stpDP ?_
    rw [if_pos (by simpa using h1)]
    exact ⟨rfl, Fr.refl.push⟩
  · have hn : nameS x.chain = true := by simpa using h1
    rw [if_neg (by rw [hn]; simp)]
    refine stpDP ?_
    refine O.dec (fun h1 => ?_) (fun h1 => ?_)
    · refine stpDP ?_
      rw [if_pos (by omega)]
      exact ⟨rfl, Fr.refl.push⟩
    · refine stpDP ?_
      refine O.dec (fun h2 => ?_) (fun h2 => ?_)
      · refine stpDP ?_
        rw [if_pos (by omega)]
        exact ⟨rfl, Fr.refl.push⟩
      · refine stpDP ?_
        rw [if_neg (by omega)]
        refine O.dec (fun h3 => ?_) (fun h3 => ?_)
        · refine stpDP ?_
          rw [if_pos (by omega)]
          exact ⟨rfl, Fr.refl.push⟩
        · refine stpDP ?_
          refine C.if (fun h4 => ?_) (fun h4 => ?_)
          · refine stpDP ?_
            rw [if_pos (by omega)]
            exact ⟨rfl, Fr.refl.push⟩
          · refine stpDP ?_
            rw [if_neg (by omega)]
            exact ⟨rfl, Fr.refl.push⟩
end Go.Proofs.YtninaabbojcdpaaGreat.A

namespace Go.Proofs.YtninaabbojcdpaaGreat.A
open Go Go.Vm
set_option maxRecDepth 10000
set_option linter.unusedVariables false
inductive OwnL (h : Heap) (size : Nat) : Value → List Value → Nat → Prop
  | own {v : Value} {c : List Value} {n : Nat} : Own h size v c n → OwnL h size v c n
  | lit {q es n : Nat} {c : List Value} : q < h.n → h.get q = .cells c es → c.length = n * size → OwnL h size (.slice (some ⟨q, 0, none⟩) n n) c n
theorem OwnL.rd {h : Heap} {size : Nat} {v : Value} {c : List Value} {n : Nat} (ho : OwnL h size v c n) : Rd h size v c n := by
  cases ho with
  | own ho => exact ho.rd
  | lit hq hg hl => exact Rd.mk hq (by rw [cellsAt_of (by rw [hg]; rfl) (by omega), List.drop_zero, List.take_of_length_le (by omega)])
theorem OwnL.keep {S : Nat → Prop} {h h' : Heap} {size : Nat} {v : Value} {c : List Value} {n : Nat} (ho : OwnL h size v c n) (hf : Fr S h h') (hs : ∀ b, ownedBy v b → ¬ S b) : OwnL h' size v c n := by
  cases ho with
  | own ho => exact .own (ho.keep hf hs)
  | lit hq hg hl => exact .lit (hf.lt hq) (by rw [hf.get _ hq (hs _ rfl), hg]) hl
section
variable {P : Program} {T : Table} {ts : List Value} {ds : List Deferred} {h : Heap} {rd : Option Nat} {v w : Value} {dst size bytes n m el q : Nat} {zero c d : List Value} {zeros : Bool} {x y : Operand} {chk : List (Option Nat × AOp × Option (Nat × Bool))} {pan : Bool} {rest : List AOper} {Q : QP} {F : Value → List Value}
theorem O.appendL [e1 : Ev ts x v] [e2 : Ev ts y w] [s : LSetF ts dst F] (ho : OwnL h size v c n) (hx : newCells h size zero zeros w = some (m, d)) (hd : d.length = m * size) (h1 : d.all Value.oneCell' = true) (hs : size ≠ 0) (hb : bytes < 1048576) (hsm : n + m < 1048576)
    (hk : ∀ v' h', OwnL h' size v' (c ++ d) (n + m) → Fr (ownedBy v) h h' → (∀ i, ownedBy v' i → ownedBy v i ∨ h.n ≤ i) → RunO P T rest ⟨F v', ds, h', rd⟩ Q) : RunO P T (⟨some dst, .append el size bytes zero zeros x y, none, chk, pan⟩ :: rest) ⟨ts, ds, h, rd⟩ Q := by
  cases ho with
  | own ho => exact O.append ho hx hd h1 hs hb hsm fun v' h' h1 h2 h3 => hk v' h' (.own h1) h2 h3
  | lit hq hg hl =>
    rename_i q es
    have hc : cellsAt h q 0 (n * size) = some c := by rw [cellsAt_of (by rw [hg]; rfl) (by omega), List.drop_zero, List.take_of_length_le (by omega)]
    by_cases hm : m = 0
    · subst hm
      have : d = [] := by simpa using hd
      subst this
      have hop : XOp P ts h (.append el size bytes zero zeros x y) (.slice (some ⟨q, 0, none⟩) n n) (h.set q (.cells c es)) := by
        refine ⟨rfl, ?_⟩
        simp only [xop, e1.eq, e2.eq]
        unfold appendOf
        rw [if_neg hs, hx]
        simp only [Nat.add_zero]
        rw [if_neg (by omega), if_pos (Nat.le_refl _)]
        have : putAt h q (0 + n * size) [] = some (h.set q (.cells c es)) := by
          simp only [putAt, hg]
          rw [if_pos ⟨by simp; omega, rfl⟩, over_nil]
        rw [this]
      haveI : LSet ts dst (.slice (some ⟨q, 0, none⟩) n n) (F (.slice (some ⟨q, 0, none⟩) n n)) := ⟨s.eq _⟩
      refine O.how hop (hk _ _ ?_ (Fr.refl.set fun _ => rfl) fun i hi => .inl hi)
      rw [List.append_nil, Nat.add_zero]
      exact .lit (by simpa using hq) (by rw [Heap.get_set, if_pos rfl]) hl
    · have hop : XOp P ts h (.append el size bytes zero zeros x y) (.slice (some ⟨h.n, 0, some 0⟩) (n + m) (n + m)) (h.push (.cells (c ++ d) size)) := by
        refine ⟨rfl, ?_⟩
        simp only [xop, e1.eq, e2.eq]
        unfold appendOf
        rw [if_neg hs, hx]
        simp only
        rw [if_neg (by omega), if_neg (by omega), hc]
      haveI : LSet ts dst (.slice (some ⟨h.n, 0, some 0⟩) (n + m) (n + m)) (F (.slice (some ⟨h.n, 0, some 0⟩) (n + m) (n + m))) := ⟨s.eq _⟩
      refine O.how hop (hk _ _ (.own (.grown (j := []) (by simp) (by omega) (Nat.le_refl _) (by rw [List.length_append, hl, hd, Nat.add_mul]) (by rw [List.append_nil, List.length_append, hl, hd, Nat.add_mul]) (by rw [Heap.get_push, if_pos rfl, List.append_nil]))) Fr.refl.push fun i hi => ?_)
      cases hi
      exact .inr (Nat.le_refl _)
end
theorem Number_okD {h : Heap} {N : Nat} (hN : N ≤ 9223372036854775807) :
    Runs Tryz.prog T0 (.fn fn_zlbQ) [.int .i64 N] h (fun r h' => OwnL h' 1 r (bcells (numF N)) (numF N).length ∧ (∀ i, ownedBy r i → h.n ≤ i) ∧ Fr (fun _ => False) h h') (fun _ _ => False) := by
  refine zlbQ_runs ?_
  refine stp ?_
  refine zlbQ_l0_rule (fun m v0 v3 h' => ∃ (n k : Nat) (ds : List UInt8), n = m ∧ v0 = .int .i64 n ∧ k ≤ 8 ∧ n < 256 ^ (8 - k) ∧ n ≤ N ∧ ds.length = k ∧ Rd h' 1 v3 (bcells ds) ds.length ∧ beN N = beN n ++ ds ∧ Fr (fun _ => False) h h') ?_ N
    ⟨N, 0, [], rfl, rfl, by omega, by simp; omega, Nat.le_refl _, rfl, Rd.nil, by simp, Fr.refl⟩
  rintro m v0 v3 h' x4 x5 x6 x7 x8 x9 x10 x11 x12 ⟨n, k, ds, hnm, rfl, hk, hn, hnN, hds, hrd, hbe, hf⟩
  subst hnm
  refine stp ?_
  refine C.if (fun hpos => ?_) (fun hz => ?_)
  · have hk8 : k < 8 := by
      rcases Nat.lt_or_ge k 8 with h | h
      · exact h
      · obtain rfl : k = 8 := by omega
        simp at hn; omega
    have h256 : n % 256 < 256 := Nat.mod_lt _ (by omega)
    have hw : (IntKind.wrap .u8 (n : Int)) = (((UInt8.ofNat (n % 256)).toNat : Nat) : Int) := by
      rw [wrap_u8, u8nat h256]
      omega
    refine stp ?_
    rw [hw]
    have hp : Fr (fun _ => False) h' (h'.push (.cells [.int .u8 ((UInt8.ofNat (n % 256)).toNat : Nat)] 0)) := Fr.refl.push
    refine O.appendL (.lit (q := h'.n) (es := 0) (c := [.int .u8 ((UInt8.ofNat (n % 256)).toNat : Nat)]) (by simp) (by rw [Heap.get_push, if_pos rfl]) rfl) ((hrd.keep hp fun _ _ => id).new _) (by rw [bcells_len]; omega) (bcells_one _) (by omega) (by omega) (by omega) (fun v' h2 ho2 hf2 hnew2 => ?_)
    refine stp ?_
    refine O.how XOp.shr8 ?_
    refine stp ?_
    have hdiv : ((n : Int) / 256) = ((n / 256 : Nat) : Int) := by omega
    rw [hdiv]
    refine zlbQ_l0_again (n / 256) (by omega) ⟨n / 256, k + 1, UInt8.ofNat (n % 256) :: ds, rfl, rfl, by omega, ?_, by omega, by simp [hds], ?_, ?_, ?_⟩
    · have : 256 ^ (8 - k) = 256 ^ (8 - (k + 1)) * 256 := by rw [← Nat.pow_succ]; congr 1; omega
      exact Nat.div_lt_of_lt_mul (by omega)
    · have := ho2.rd
      rw [show 1 + ds.length = (UInt8.ofNat (n % 256) :: ds).length from by simp; omega] at this
      exact this
    · rw [hbe, beN_pos (by omega)]
      simp
    · refine Fr.trans (S := fun _ => False) (hf.trans' hp) hf2 fun i hi e => ?_
      have : h'.n = i := e
      have := hf.n
      omega
  · have hn0 : n = 0 := by omega
    subst hn0
    rw [beN_zero, List.nil_append] at hbe
    obtain ⟨a3, c3, rfl, _, _⟩ := id hrd
    have hw : ((ds.length : Nat) : Int) = (((UInt8.ofNat ds.length).toNat : Nat) : Int) := by
      rw [u8nat (by omega)]
    refine stp ?_
    rw [hw]
    have hp : Fr (fun _ => False) h' (h'.push (.cells [.int .u8 ((UInt8.ofNat ds.length).toNat : Nat)] 0)) := Fr.refl.push
    refine O.appendL (.lit (q := h'.n) (es := 0) (c := [.int .u8 ((UInt8.ofNat ds.length).toNat : Nat)]) (by simp) (by rw [Heap.get_push, if_pos rfl]) rfl) ((hrd.keep hp fun _ _ => id).new _) (by rw [bcells_len]; omega) (bcells_one _) (by omega) (by omega) (by omega) (fun v' h2 ho2 hf2 hnew2 => ?_)
    refine stp ?_
    have hlen : (numF N).length = 1 + ds.length := by simp [numF, hbe]; omega
    refine ⟨?_, fun i hi => ?_, ?_⟩
    · rw [hlen, show bcells (numF N) = [.int .u8 ((UInt8.ofNat ds.length).toNat : Nat)] ++ bcells ds from by rw [numF, hbe]; rfl]
      exact ho2
    · have := hf.n
      rcases hnew2 i hi with e | e
      · have : h'.n = i := e
        omega
      · simp at e; omega
    · refine Fr.trans (S := fun _ => False) (hf.trans' hp) hf2 fun i hi e => ?_
      have : h'.n = i := e
      have := hf.n
      omega
theorem Counted_okD {h : Heap} {v : Value} {l : List UInt8} (hv : Rd h 1 v (bcells l) l.length) (hs : l.length + 9 < 1048576) :
    Runs Tryz.prog T0 (.fn fn_zjbQ) [v] h (fun r h' => Rd h' 1 r (bcells (numF l.length ++ l)) (numF l.length ++ l).length ∧ Fr (fun _ => False) h h') (fun _ _ => False) := by
  have hv0 := hv
  obtain ⟨a0, c0, rfl, _, _⟩ := hv
  have hfl := numF_len (n := l.length) (by omega)
  refine zjbQ_runs ?_
  refine stp ?_
  refine O.call' (Number_okD (N := l.length) (by omega)) (fun r h1 hr => ?_)
  obtain ⟨ho, hnew, hf⟩ := hr
  refine stp ?_
  refine O.appendL ho ((hv0.keep hf fun _ _ => id).new _) (by rw [bcells_len]; omega) (bcells_one _) (by omega) (by omega) (by omega) (fun v' h2 ho2 hf2 hnew2 => ?_)
  refine stp ?_
  rw [List.length_append, bcells_append]
  exact ⟨ho2.rd, Fr.trans (S := fun _ => False) hf hf2 fun i hi e => by have := hnew i e; omega⟩
end Go.Proofs.YtninaabbojcdpaaGreat.A

namespace Go.Proofs.YtninaabbojcdpaaGreat.A
open Go Go.Vm
set_option maxRecDepth 10000
set_option linter.unusedVariables false
structure DW (h : Heap) (lo p : Nat) (sv : Value) (bs : List UInt8) (lim : Nat) (e : Int) : Prop where
  lt : p < h.n
  le : lo ≤ p
  get : h.get p = .cells [.int .i64 lim, sv, .int .i64 e] 0
  own : Own h 1 sv (bcells bs) bs.length
  apart : ¬ ownedBy sv p
  above : ∀ i, ownedBy sv i → lo ≤ i
  small : bs.length < 1048577
structure DWs (h : Heap) (lo p lim : Nat) (st : WSt) : Prop where
  ex : ∃ sv, DW h lo p sv st.bs lim st.e
theorem DW.keep {S : Nat → Prop} {h h' : Heap} {lo p : Nat} {sv : Value} {bs : List UInt8} {lim : Nat} {e : Int} (hp : DW h lo p sv bs lim e) (hf : Fr S h h') (hs : ¬ S p) (hb : ∀ i, ownedBy sv i → ¬ S i) : DW h' lo p sv bs lim e :=
  ⟨hf.lt hp.lt, hp.le, by rw [hf.get p hp.lt hs, hp.get], hp.own.keep hf hb, hp.apart, hp.above, hp.small⟩
theorem DWs.keep {S : Nat → Prop} {h h' : Heap} {lo p lim : Nat} {st : WSt} (hp : DWs h lo p lim st) (hf : Fr S h h') (hs : ∀ i, S i → i < lo) : DWs h' lo p lim st :=
  let ⟨sv, hw⟩ := hp.ex
  ⟨sv, hw.keep hf (fun h => by have := hs _ h; have := hw.le; omega) fun i hi h => by have := hs _ h; have := hw.above i hi; omega⟩
theorem DWs.none {h h' : Heap} {lo p lim : Nat} {st : WSt} (hp : DWs h lo p lim st) (hf : Fr (fun _ => False) h h') : DWs h' lo p lim st := hp.keep hf fun _ h => h.elim
theorem DWs.lo_le {h : Heap} {lo p lim : Nat} {st : WSt} (hp : DWs h lo p lim st) : lo ≤ h.n := let ⟨_, hw⟩ := hp.ex; Nat.le_of_lt (Nat.lt_of_le_of_lt hw.le hw.lt)
def DWrites (h : Heap) (lo p lim : Nat) (st : WSt) (r : Value) (h' : Heap) : Prop := r = .int .i64 st.e ∧ DWs h' lo p lim st ∧ Fr (fun i => i = p) h h'
theorem Put_okD {h : Heap} {lo p lim : Nat} {st : WSt} {v : Value} {l : List UInt8} (hw : DWs h lo p lim st) (hv : Rd h 1 v (bcells l) l.length) (hlim : lim < 1048576 ∨ st.bs.length + l.length < 1048576) (hs : l.length < 2000000) :
    Runs Tryz.prog T0 (.fn fn_zsbQ) [.pointer (some ⟨p, 0, none⟩), v] h (DWrites h lo p lim (putS lim true l st)) (fun _ _ => False) := by
  obtain ⟨bs, e⟩ := st
  obtain ⟨sv, hw⟩ := hw.ex
  have hw : DW h lo p sv bs lim e := hw
  have hsum : bs.length + l.length ≤ lim → bs.length + l.length < 1048576 := fun h => by
    rcases hlim with h' | h'
    · omega
    · exact h'
  clear hlim
  have hle := hw.le
  have hlt := hw.lt
  have hsmall := hw.small
  have hv0 := hv
  obtain ⟨a0, cap0, rfl, hl0, _⟩ := hw.own.rd
  obtain ⟨a1, cap1, rfl, hl1, _⟩ := hv
  haveI i0 : HGet h p _ := ⟨hw.get⟩
  haveI : BLt p h := ⟨hlt⟩
  refine zsbQ_runs ?_
  refine stp ?_
  unfold putS
  refine D.dec (fun he => ?_) (fun he => ?_)
  · subst he
    refine stp ?_
    refine C.if (fun hlong => ?_) (fun hfit => ?_)
    · refine stp ?_
      rw [if_neg (by simp), if_neg (by simp), if_pos (show lim < bs.length + l.length by omega)]
      refine ⟨rfl, ⟨.slice a0 bs.length cap0, by simpa using hlt, hle, by rw [Heap.get_set, if_pos rfl], hw.own.keep (S := fun i => i = p) (Fr.refl.set fun _ => rfl) fun i hi hp => hw.apart (hp ▸ hi), hw.apart, hw.above, hsmall⟩, Fr.refl.set fun _ => rfl⟩
    · refine stp ?_
      have hsum := hsum (by omega)
      rw [if_neg (by simp), if_neg (by simp), if_neg (show ¬ lim < bs.length + l.length by omega)]
      have hp0 : Fr (fun _ => False) h (h.push (.cells [] 0)) := Fr.refl.push
      refine O.append (size := 1) (bytes := 1) (n := 0) (c := []) (m := bs.length) (d := bcells bs) (.lit (q := h.n) (es := 0) (by simp) (by rw [Heap.get_push, if_pos rfl])) ((hw.own.rd.keep hp0 fun _ _ => id).new _) (by rw [bcells_len]; omega) (bcells_one _) (by omega) (by omega) (by omega) (fun v1 h1 ho1 hf1 hnew1 => ?_)
      rw [Nat.zero_add, List.nil_append] at ho1
      have f1 : Fr (fun _ => False) h h1 := Fr.trans (S := fun _ => False) hp0 hf1 fun i hi e => by have : h.n = i := e; omega
      have hn1 := hf1.n
      simp only [Heap.n_push] at hn1
      refine stp ?_
      refine O.append ho1 ((hv0.keep f1 fun _ _ => id).new _) (by rw [bcells_len]; omega) (bcells_one _) (by omega) (by omega) (by omega) (fun v2 h2 ho2 hf2 hnew2 => ?_)
      have hown1 : ∀ i, ownedBy v1 i → h.n ≤ i := fun i hi => by
        rcases hnew1 i hi with e | e
        · have : h.n = i := e; omega
        · simp at e; omega
      have f2 : Fr (fun _ => False) h h2 := Fr.trans (S := fun _ => False) f1 hf2 fun i hi e => by have := hown1 i e; omega
      have hown2 : ∀ i, ownedBy v2 i → h.n ≤ i := fun i hi => (hnew2 i hi).elim (hown1 i) fun e => by omega
      obtain ⟨a2, cap2, rfl, hl2, _⟩ := ho2.rd
      haveI := f2.keep i0 hlt id
      refine stp ?_
      refine ⟨rfl, ⟨.slice a2 (bs.length + l.length) cap2, by simpa using f2.lt hlt, hle, by rw [Heap.get_set, if_pos rfl], ?_, fun e => by have := hown2 _ e; omega, fun i hi => by have := hown2 i hi; omega, by simp; omega⟩, Fr.set (f2.mono fun _ _ h => h.elim) fun _ => rfl⟩
      show Own _ 1 (.slice a2 (bs.length + l.length) cap2) (bcells (bs ++ l)) (bs ++ l).length
      rw [bcells_append, List.length_append]
      exact ho2.keep (S := fun i => i = p) (Fr.refl.set fun _ => rfl) fun i hi e => by have := hown2 i hi; omega
  · refine stp ?_
    refine C.if (fun h0 => absurd h0 he) (fun _ => ?_)
    refine stp ?_
    rw [if_pos (by simpa using he)]
    exact ⟨rfl, ⟨_, hw⟩, Fr.refl⟩
theorem Num_okD {h : Heap} {lo p lim : Nat} {st : WSt} {n : Int} (hw : DWs h lo p lim st) (hn : n ≤ 9223372036854775807) (hlim : lim < 1048576 ∨ st.bs.length + 9 < 1048576) :
    Runs Tryz.prog T0 (.fn fn_zrbQ) [.pointer (some ⟨p, 0, none⟩), .int .i64 n] h (DWrites h lo p lim (putS lim (decide (0 ≤ n)) (numF n.toNat) st)) (fun _ _ => False) := by
  obtain ⟨bs, e⟩ := st
  have hlo := hw.lo_le
  have hw0 := hw
  obtain ⟨sv, hw⟩ := hw.ex
  have hw : DW h lo p sv bs lim e := hw
  have hlt := hw.lt
  obtain ⟨a0, cap0, rfl, hl0, _⟩ := hw.own.rd
  haveI i0 : HGet h p _ := ⟨hw.get⟩
  refine zrbQ_runs ?_
  refine stp ?_
  refine O.dec (fun hneg => ?_) (fun hpos => ?_)
  · rw [decide_eq_false (show ¬ 0 ≤ n by omega)]
    unfold putS
    refine stp ?_
    refine C.if (fun he => ?_) (fun he => ?_)
    · subst he
      refine stp ?_
      rw [if_neg (by simp), if_pos rfl]
      exact ⟨rfl, ⟨.slice a0 bs.length cap0, by simpa using hlt, hw.le, by rw [Heap.get_set, if_pos rfl], hw.own.keep (S := fun i => i = p) (Fr.refl.set fun _ => rfl) fun i hi hp => hw.apart (hp ▸ hi), hw.apart, hw.above, hw.small⟩, Fr.refl.set fun _ => rfl⟩
    · refine stp ?_
      refine C.ifN (fun _ => ?_) (fun h0 => absurd h0 he)
      refine stp ?_
      rw [if_pos (by simpa using he)]
      exact ⟨rfl, ⟨_, hw⟩, Fr.refl⟩
  · rw [decide_eq_true (show 0 ≤ n by omega)]
    refine stp ?_
    refine C.ifN (fun he => ?_) (fun he => ?_)
    · refine stp ?_
      unfold putS
      rw [if_pos (by simpa using he)]
      exact ⟨rfl, ⟨_, hw⟩, Fr.refl⟩
    · subst he
      refine stp ?_
      have e0 : n = ((n.toNat : Nat) : Int) := by omega
      have hfl := numF_len (n := n.toNat) (by omega)
      have kN := Number_okD (h := h) (N := n.toNat) (by omega)
      rw [← e0] at kN
      refine O.call' kN (fun r h1 hr => ?_)
      obtain ⟨ho, hnew, hf⟩ := hr
      refine stp ?_
      refine O.call' (Put_okD (l := numF n.toNat) (hw0.none hf) ho.rd (hlim.imp id fun h => by have h : bs.length + 9 < 1048576 := h; show bs.length + _ < _; omega) (by omega)) (fun r h2 hr => ?_)
      obtain ⟨rfl, hw2, hf2⟩ := hr
      refine stp ?_
      exact ⟨rfl, hw2, Fr.trans' (hf.mono fun _ _ h => h.elim) hf2⟩
theorem Text_okD {h : Heap} {lo p lim : Nat} {st : WSt} {s : ByteArray} (hw : DWs h lo p lim st) (hs : s.size + 9 < 1048576) (hlim : lim < 1048576 ∨ st.bs.length + s.size + 9 < 1048576) :
    Runs Tryz.prog T0 (.fn fn_ztbQ) [.pointer (some ⟨p, 0, none⟩), .string s] h (DWrites h lo p lim (putS lim true (numF s.size ++ s.data.toList) st)) (fun _ _ => False) := by
  have hsz : s.data.toList.length = s.size := by simp
  have hfl := numF_len (n := s.size) (by omega)
  refine ztbQ_runs ?_
  refine stp ?_
  refine O.call' (Counted_okD (l := s.data.toList) ?_ (by omega)) (fun r h1 hr => ?_)
  · rw [hsz]
    refine Rd.mk (by simp) ?_
    rw [cellsAt_of (c := bcells s.data.toList) (by rw [Heap.get_push, if_pos rfl]; rfl) (by rw [bcells_data]; omega), List.drop_zero, List.take_of_length_le (by rw [bcells_data]; omega)]
  obtain ⟨hrd, hf⟩ := hr
  rw [hsz] at hrd
  have hf1 : Fr (fun _ => False) h h1 := Fr.trans (S := fun _ => False) Fr.refl.push hf fun _ _ h => h
  refine stp ?_
  refine O.call' (Put_okD (l := numF s.size ++ s.data.toList) (hw.none hf1) hrd (hlim.imp id fun h => by rw [List.length_append, hsz]; omega) (by rw [List.length_append]; omega)) (fun r h2 hr => ?_)
  obtain ⟨rfl, hw2, hf2⟩ := hr
  refine stp ?_
  exact ⟨rfl, hw2, Fr.trans' (hf1.mono fun _ _ h => h.elim) hf2⟩
theorem Hash_okD {h : Heap} {lo p lim : Nat} {st : WSt} {l : List UInt8} (hw : DWs h lo p lim st) (hl : l.length = 32) (hlim : lim < 1048576 ∨ st.bs.length + 32 < 1048576) :
    Runs Tryz.prog T0 (.fn fn_zpbQ) [.pointer (some ⟨p, 0, none⟩), .agg ⟨bcells l⟩] h (DWrites h lo p lim (putS lim true l st)) (fun _ _ => False) := by
  haveI := l32 hl
  refine zpbQ_runs ?_
  refine stp ?_
  have hp : Fr (fun _ => False) h ((h.push (.cells (bcells l) 0)).push (.cells [] 0)) := Fr.refl.push.push
  refine O.append (size := 1) (bytes := 1) (n := 0) (c := []) (m := 32) (d := bcells l) (.lit (q := h.n + 1) (es := 0) (by simp) (by rw [Heap.get_push, if_pos (by simp)])) (Rd.new (Rd.mk (by simp; omega) (by rw [cellsAt_of (c := bcells l) (by rw [Heap.get_push, if_neg (by simp), Heap.get_push, if_pos rfl]; rfl) (by rw [bcells_len]; omega), List.drop_zero, List.take_of_length_le (by rw [bcells_len]; omega)])) _) (by rw [bcells_len]; omega) (bcells_one _) (by omega) (by omega) (by omega) (fun v1 h1 ho1 hf1 hnew1 => ?_)
  rw [Nat.zero_add, List.nil_append] at ho1
  have f1 : Fr (fun _ => False) h h1 := Fr.trans (S := fun _ => False) hp hf1 fun i hi e => by have : h.n + 1 = i := e; omega
  refine stp ?_
  refine O.call' (Put_okD (l := l) (hw.none f1) (by rw [hl]; exact ho1.rd) (by rw [hl]; exact hlim) (by omega)) (fun r h2 hr => ?_)
  obtain ⟨rfl, hw2, hf2⟩ := hr
  refine stp ?_
  exact ⟨rfl, hw2, Fr.trans' (f1.mono fun _ _ h => h.elim) hf2⟩
theorem NewWriter_okD {h : Heap} {lim : Nat} (hl : lim ≤ 1048576) :
    Runs Tryz.prog T0 (.fn fn_zkbQ) [.int .i64 lim] h (fun r h' => r = .tuple ⟨[.pointer (some ⟨h.n, 0, none⟩), .int .i64 0]⟩ ∧ DWs h' h.n h.n lim ⟨[], 0⟩ ∧ Fr (fun _ => False) h h') (fun _ _ => False) := by
  refine zkbQ_runs ?_
  refine stp ?_
  refine C.if (fun h1 => by omega) (fun _ => ?_)
  refine stp ?_
  refine ⟨rfl, ⟨.slice none 0 0, by simp, Nat.le_refl _, by rw [Heap.get_push, if_pos rfl], .none, fun h => h, fun i h => h.elim, by simp⟩, Fr.refl.push⟩
theorem Done_okD {h : Heap} {lo p lim : Nat} {st : WSt} (hw : DWs h lo p lim st) (hs : st.bs.length < 1048576) :
    Runs Tryz.prog T0 (.fn fn_zobQ) [.pointer (some ⟨p, 0, none⟩)] h
      (fun r h' => ∃ v, r = .tuple ⟨[v, .int .i64 st.e]⟩ ∧ Own h' 1 v (bcells (if st.e = 0 then st.bs else [])) (if st.e = 0 then st.bs else []).length ∧ (∀ i, ownedBy v i → h.n ≤ i) ∧ Fr (fun _ => False) h h') (fun _ _ => False) := by
  obtain ⟨bs, e⟩ := st
  obtain ⟨sv, hw⟩ := hw.ex
  have hw : DW h lo p sv bs lim e := hw
  have hs : bs.length < 1048576 := hs
  obtain ⟨a0, cap0, rfl, hl0, _⟩ := hw.own.rd
  haveI : HGet h p _ := ⟨hw.get⟩
  haveI : BLt p h := ⟨hw.lt⟩
  refine zobQ_runs ?_
  refine stp ?_
  refine C.ifN (fun he => ?_) (fun he => ?_)
  · refine stp ?_
    rw [if_neg he]
    exact ⟨_, rfl, .none, fun i h => h.elim, Fr.refl⟩
  · subst he
    refine stp ?_
    have hp0 : Fr (fun _ => False) h (h.push (.cells [] 0)) := Fr.refl.push
    refine O.append (size := 1) (bytes := 1) (n := 0) (c := []) (m := bs.length) (d := bcells bs) (.lit (q := h.n) (es := 0) (by simp) (by rw [Heap.get_push, if_pos rfl])) ((hw.own.rd.keep hp0 fun _ _ => id).new _) (by rw [bcells_len]; omega) (bcells_one _) (by omega) (by omega) (by omega) (fun v1 h1 ho1 hf1 hnew1 => ?_)
    rw [Nat.zero_add, List.nil_append] at ho1
    refine stp ?_
    refine ⟨v1, rfl, ho1, fun i hi => ?_, Fr.trans (S := fun _ => False) hp0 hf1 fun i hi e => by have : h.n = i := e; omega⟩
    rcases hnew1 i hi with e | e
    · have : h.n = i := e; omega
    · simp at e; omega
end Go.Proofs.YtninaabbojcdpaaGreat.A

namespace Go.Proofs.YtninaabbojcdpaaGreat.A
open Go Go.Vm
set_option maxRecDepth 10000
set_option linter.unusedVariables false
theorem RPut6_ok {h : Heap} {lo p lim : Nat} {x : Hd} (hw : DWs h lo p lim ⟨[], 0⟩) (hx : x.ok) (hc : checkS x = 0) (hlim : 1000 ≤ lim) :
    Runs Tryz.prog T0 (.fn fn_zbcQ) [.pointer (some ⟨p, 0, none⟩), .agg ⟨x.cells⟩] h (fun r h' => DWs h' lo p lim ⟨encS x, 0⟩ ∧ Fr (fun i => i = p) h h') (fun _ _ => False) := by
  haveI := l32 hx.prev
  haveI := l32 hx.vals
  haveI := l32 hx.next
  haveI := l32 hx.app
  have hlo := hw.lo_le
  obtain ⟨c1, c2, c3⟩ := checkS_ok hc
  obtain ⟨d1, d2, d3⟩ := nameS_len c1
  have hsz : (ByteArray.mk ⟨x.chain⟩).size = x.chain.length := rfl
  have l1 := numF_len (n := x.chain.length) (by omega)
  have l2 := numF_len (n := x.height.toNat) (by omega)
  have l3 := numF_len (n := x.time.toNat) (by omega)
  have l4 := hx.prev
  have l5 := hx.vals
  have l6 := hx.next
  have l7 := hx.app
  refine zbcQ_runs ?_
  have hp := hw.ex.elim fun _ h => h.lt
  refine stp ?_
  have hn0 : (h.push (.cells x.cells 0)).n = h.n + 1 := rfl
  have hw0 : DWs (h.push (.cells x.cells 0)) lo p lim ⟨[], 0⟩ := hw.none Fr.refl.push
  have i0 : HGet (h.push (.cells x.cells 0)) h.n (.cells x.cells 0) := HGet.new
  have f0 : Fr (fun i => i = p) h (h.push (.cells x.cells 0)) := Fr.refl.push
  generalize h.push (.cells x.cells 0) = h0 at *
  haveI := i0
  have h9 : x.chain.length + 9 < 1048576 := by omega
  have h10 : ([] : List UInt8).length + x.chain.length + 9 < 1048576 := by simp only [List.length_nil]; omega
  refine O.call' (Text_okD (s := ByteArray.mk ⟨x.chain⟩) hw0 h9 (.inr h10)) (fun r h1 hr => ?_)
  obtain ⟨rfl, hw1, hf1⟩ := hr
  have hn1 := hf1.n
  have e1 : putS lim true (numF x.chain.length ++ x.chain) ⟨[], 0⟩ = ⟨[] ++ (numF x.chain.length ++ x.chain), 0⟩ := putS_fit (by simp only [List.length_append, List.length_nil]; omega)
  rw [List.nil_append] at e1
  have hw1 : DWs h1 lo p lim ⟨numF x.chain.length ++ x.chain, 0⟩ := by rw [← e1]; exact hw1
  have i1 := hf1.keep (b := h.n) i0 (by omega) (by omega)
  haveI := i1
  refine stp ?_
  refine O.call' (Num_okD hw1 (by omega) (.inr (by simp only [List.length_append]; omega))) (fun r h2 hr => ?_)
  obtain ⟨rfl, hw2, hf2⟩ := hr
  have hn2 := hf2.n
  rw [show decide (0 ≤ x.height) = true from decide_eq_true (by omega)] at hw2
  rw [putS_fit (by simp only [List.length_append, List.length_nil]; omega)] at hw2
  have i2 := hf2.keep (b := h.n) i1 (by omega) (by omega)
  haveI := i2
  refine stp ?_
  refine O.call' (Num_okD hw2 (by omega) (.inr (by simp only [List.length_append]; omega))) (fun r h3 hr => ?_)
  obtain ⟨rfl, hw3, hf3⟩ := hr
  have hn3 := hf3.n
  rw [show decide (0 ≤ x.time) = true from decide_eq_true (by omega)] at hw3
  rw [putS_fit (by simp only [List.length_append, List.length_nil]; omega)] at hw3
  have i3 := hf3.keep (b := h.n) i2 (by omega) (by omega)
  haveI := i3
  refine stp ?_
  refine O.call' (Hash_okD hw3 l4 (.inr (by simp only [List.length_append]; omega))) (fun r h4 hr => ?_)
  obtain ⟨rfl, hw4, hf4⟩ := hr
  have hn4 := hf4.n
  rw [putS_fit (by simp only [List.length_append, List.length_nil]; omega)] at hw4
  have i4 := hf4.keep (b := h.n) i3 (by omega) (by omega)
  haveI := i4
  refine stp ?_
  refine O.call' (Hash_okD hw4 l5 (.inr (by simp only [List.length_append]; omega))) (fun r h5 hr => ?_)
  obtain ⟨rfl, hw5, hf5⟩ := hr
  have hn5 := hf5.n
  rw [putS_fit (by simp only [List.length_append, List.length_nil]; omega)] at hw5
  have i5 := hf5.keep (b := h.n) i4 (by omega) (by omega)
  haveI := i5
  refine stp ?_
  refine O.call' (Hash_okD hw5 l6 (.inr (by simp only [List.length_append]; omega))) (fun r h6 hr => ?_)
  obtain ⟨rfl, hw6, hf6⟩ := hr
  have hn6 := hf6.n
  rw [putS_fit (by simp only [List.length_append, List.length_nil]; omega)] at hw6
  have i6 := hf6.keep (b := h.n) i5 (by omega) (by omega)
  haveI := i6
  refine stp ?_
  refine O.call' (Hash_okD hw6 l7 (.inr (by simp only [List.length_append]; omega))) (fun r h7 hr => ?_)
  obtain ⟨rfl, hw7, hf7⟩ := hr
  have hn7 := hf7.n
  rw [putS_fit (by simp only [List.length_append, List.length_nil]; omega)] at hw7
  have i7 := hf7.keep (b := h.n) i6 (by omega) (by omega)
  haveI := i7
  refine stp ?_
  refine ⟨hw7, f0.trans' (hf1.trans' (hf2.trans' (hf3.trans' (hf4.trans' (hf5.trans' (hf6.trans' hf7))))))⟩
theorem REncode_ok {h : Heap} {x : Hd} (hx : x.ok) (hs : x.chain.length < 1048576) : Runs Tryz.prog T0 (.fn fn_zzbQ) [.agg ⟨x.cells⟩] h
    (fun r h' => ∃ v, r = .tuple ⟨[v, .int .i64 (checkS x)]⟩ ∧ Own h' 1 v (bcells (if checkS x = 0 then encS x else [])) (if checkS x = 0 then encS x else []).length ∧ (∀ i, ownedBy v i → h.n ≤ i) ∧ Fr (fun _ => False) h h') (fun _ _ => False) := by
  haveI := l32 hx.prev
  haveI := l32 hx.vals
  haveI := l32 hx.next
  haveI := l32 hx.app
  refine zzbQ_runs ?_
  refine stp ?_
  have i0 : HGet (h.push (.cells x.cells 0)) h.n (.cells x.cells 0) := HGet.new
  have f0 : Fr (fun _ => False) h (h.push (.cells x.cells 0)) := Fr.refl.push
  have hn0 : (h.push (.cells x.cells 0)).n = h.n + 1 := rfl
  generalize h.push (.cells x.cells 0) = h0 at *
  refine O.call' (RCheck_ok hx hs) (fun r h1 hr => ?_)
  obtain ⟨rfl, hf1⟩ := hr
  have hn1 := hf1.n
  have i1 := hf1.keep (b := h.n) i0 (by omega) id
  haveI := i1
  refine stp ?_
  refine C.ifN (fun hc => ?_) (fun hc => ?_)
  · refine stp ?_
    rw [if_neg hc]
    exact ⟨_, rfl, .none, fun i h => h.elim, f0.trans' hf1⟩
  · refine stp ?_
    refine O.call' (NewWriter_okD (lim := 1048576) (by omega)) (fun r h2 hr => ?_)
    obtain ⟨rfl, hw2, hf2⟩ := hr
    have hn2 := hf2.n
    have i2 := hf2.keep (b := h.n) i1 (by omega) id
    haveI := i2
    refine stp ?_
    refine O.call' (RPut6_ok hw2 hx hc (by omega)) (fun r h3 hr => ?_)
    obtain ⟨hw3, hf3⟩ := hr
    have hn3 := hf3.n
    refine stp ?_
    have hel : (encS x).length < 1048576 := by
      obtain ⟨c1, c2, c3⟩ := checkS_ok hc
      obtain ⟨d1, d2, d3⟩ := nameS_len c1
      have l1 := numF_len (n := x.chain.length) (by omega)
      have l2 := numF_len (n := x.height.toNat) (by omega)
      have l3 := numF_len (n := x.time.toNat) (by omega)
      have l4 := hx.prev
      have l5 := hx.vals
      have l6 := hx.next
      have l7 := hx.app
      unfold encS
      simp only [List.length_append]
      omega
    refine O.call' (Done_okD hw3 hel) (fun r h4 hr => ?_)
    obtain ⟨v, rfl, ho, hnew, hf4⟩ := hr
    refine stp ?_
    rw [hc] at *
    rw [if_pos rfl] at ho ⊢
    refine ⟨v, rfl, ho, fun i hi => ?_, ?_⟩
    · have := hnew i hi; omega
    · refine Fr.trans (S := fun _ => False) (S' := fun i => i = h1.n) (f0.trans' hf1) (Fr.trans (S := fun i => i = h1.n) (hf2.mono fun _ _ h => h.elim) (Fr.trans (S := fun i => i = h1.n) hf3 (hf4.mono fun _ _ h => h.elim) fun _ _ h => h) fun _ _ h => h) fun i hi e => by omega
end Go.Proofs.YtninaabbojcdpaaGreat.A

namespace Go.Proofs.YtninaabbojcdpaaGreat.A
open Go Go.Vm
set_option maxRecDepth 10000
set_option linter.unusedVariables false
structure Val where
  k0 : UInt8
  k1 : UInt8
  k2 : UInt8
  k3 : UInt8
  p : Int
deriving DecidableEq
abbrev Val.key (v : Val) : List UInt8 := [v.k0, v.k1, v.k2, v.k3]
abbrev Val.cells (v : Val) : List Value := [.int .u8 v.k0.toNat, .int .u8 v.k1.toNat, .int .u8 v.k2.toNat, .int .u8 v.k3.toNat, .int .i64 v.p]
abbrev zVal : Val := ⟨0, 0, 0, 0, 0⟩
def Val.of (l : List UInt8) (p : Int) : Val := ⟨l.getD 0 0, l.getD 1 0, l.getD 2 0, l.getD 3 0, p⟩
def vcells (l : List Val) : List Value := l.flatMap Val.cells
theorem vcells_nil : vcells [] = [] := rfl
theorem vcells_cons (v : Val) (l : List Val) : vcells (v :: l) = v.cells ++ vcells l := rfl
theorem vcells_len : ∀ l : List Val, (vcells l).length = l.length * 5
  | [] => rfl
  | v :: l => by rw [vcells_cons, List.length_append, vcells_len l]; simp; omega
theorem vcells_one : ∀ l : List Val, (vcells l).all Value.oneCell' = true
  | [] => rfl
  | v :: l => by rw [vcells_cons, List.all_append, vcells_one l]; rfl
theorem vcells_at : ∀ {l : List Val} {k : Nat}, k < l.length → ((vcells l).drop (k * 5)).take 5 = (l.getD k zVal).cells
  | v :: l, 0, _ => by rw [vcells_cons]; rfl
  | v :: l, k + 1, h => by
    have := vcells_at (l := l) (k := k) (by simpa using h)
    rw [vcells_cons, show (k + 1) * 5 = v.cells.length + k * 5 from by simp; omega, ← List.drop_drop, List.drop_left]
    exact this
theorem val_cells {h : Heap} {b o n k : Nat} {l : List Val} (hc : cellsAt h b o (n * 5) = some (vcells l)) (hn : l.length = n) (hk : k < n) : Cells h b (o + k * 5) 5 (l.getD k zVal).cells := ⟨by
  rw [cellsAt_sub hc (by omega), vcells_at (by omega)]⟩
theorem val_key {h : Heap} {b o n k : Nat} {l : List Val} (hc : cellsAt h b o (n * 5) = some (vcells l)) (hn : l.length = n) (hk : k < n) : Cells h b (o + k * 5) 4 [.int .u8 (l.getD k zVal).k0.toNat, .int .u8 (l.getD k zVal).k1.toNat, .int .u8 (l.getD k zVal).k2.toNat, .int .u8 (l.getD k zVal).k3.toNat] := ⟨by
  have h5 := (val_cells hc hn hk).eq
  have := cellsAt_sub (k := 0) (m := 4) h5 (by omega)
  simpa using this⟩
theorem val_power {h : Heap} {b o n k : Nat} {l : List Val} (hc : cellsAt h b o (n * 5) = some (vcells l)) (hn : l.length = n) (hk : k < n) : Cell h b (o + k * 5 + 4) (.int .i64 (l.getD k zVal).p) := ⟨by
  have h5 := (val_cells hc hn hk).eq
  have := cellsAt_sub (k := 4) (m := 1) h5 (by omega)
  simpa using this⟩
def stepsV (least : Int) : Option Val → List Val → Int
  | _, [] => 0
  | last, v :: l => if (match last with | none => false | some x => !keyLt x.key v.key) = true then 9 else if v.p < least ∨ 4611686018427387904 < v.p then 3 else stepsV least (some v) l
def checkV (l : List Val) : Int := if l.length = 0 then 6 else if 64 < l.length then 4 else stepsV 1 none l
def lastV (l : List Val) (k : Nat) : Option Val := if k = 0 then none else some (l.getD (k - 1) zVal)
theorem drop_getD {l : List Val} {k : Nat} (hk : k < l.length) : l.drop k = l.getD k zVal :: l.drop (k + 1) := by
  rw [List.drop_eq_getElem_cons hk]
  simp [List.getD, hk]
theorem stepsV_at {least : Int} {l : List Val} {k : Nat} (hk : k < l.length) : stepsV least (lastV l k) (l.drop k) =
    if (match lastV l k with | none => false | some x => !keyLt x.key (l.getD k zVal).key) = true then 9 else if (l.getD k zVal).p < least ∨ 4611686018427387904 < (l.getD k zVal).p then 3 else stepsV least (lastV l (k + 1)) (l.drop (k + 1)) := by
  rw [drop_getD hk]
  rfl
def atS (x : Val) (begun : Bool) (least most : Int) (v : Val) : Int := if (begun && !keyLt x.key v.key) = true then 9 else if v.p < least ∨ most < v.p then 3 else 0
theorem stepsV_atS {least : Int} {l : List Val} {k : Nat} {x : Val} (hk : k < l.length) (hx : 0 < k → lastV l k = some x) :
    stepsV least (lastV l k) (l.drop k) = if atS x (decide (0 < k)) least 4611686018427387904 (l.getD k zVal) = 0 then stepsV least (lastV l (k + 1)) (l.drop (k + 1)) else atS x (decide (0 < k)) least 4611686018427387904 (l.getD k zVal) := by
  rw [stepsV_at hk]
  by_cases h0 : 0 < k
  · rw [hx h0]
    unfold atS
    simp only [decide_eq_true h0, Bool.true_and]
    split
    · rfl
    · split
      · rfl
      · rfl
  · obtain rfl : k = 0 := by omega
    unfold atS
    simp only [lastV, if_true, Nat.lt_irrefl, decide_false, Bool.false_and, Bool.false_eq_true, if_false]
    split
    · rfl
    · rfl
end Go.Proofs.YtninaabbojcdpaaGreat.A

namespace Go.Proofs.YtninaabbojcdpaaGreat.A
open Go Go.Vm
set_option maxRecDepth 10000
set_option linter.unusedVariables false
theorem Compare_ok {h : Heap} {v w : Value} {a b : List UInt8} {n m : Nat} (h1 : Rd h 1 v (bcells a) n) (h2 : Rd h 1 w (bcells b) m) :
    Runs Tryz.prog T0 (.fn fn_ziQ) [v, w] h (fun r h' => r = .int .i64 (cmpB a b) ∧ h' = h) (fun _ _ => False) := by
  have h1' := h1
  have h2' := h2
  obtain ⟨a0, c0, rfl, _, _⟩ := h1
  obtain ⟨a1, c1, rfl, _, _⟩ := h2
  refine ziQ_runs ?_
  refine stp ?_
  refine O.how (XOp.mkCompare h1' h2' (by kernel_rfl)) ?_
  refine stp ?_
  exact ⟨rfl, rfl⟩
abbrev lookC (x : Val) (begun : Bool) (least most : Int) : List Value := [.int .u8 x.k0.toNat, .int .u8 x.k1.toNat, .int .u8 x.k2.toNat, .int .u8 x.k3.toNat, .bool begun, .int .i64 least, .int .i64 most]
theorem at_ok {h : Heap} {q : Nat} {x v : Val} {begun : Bool} {least most : Int} (hg : h.get q = .cells (lookC x begun least most) 0) (hq : q < h.n) :
    Runs Tryz.prog T0 (.fn fn_zxcQ) [.pointer (some ⟨q, 0, none⟩), .agg ⟨v.cells⟩] h (fun r h' => r = .int .i64 (atS x begun least most v) ∧ h'.get q = .cells (lookC v true least most) 0 ∧ Fr (fun i => i = q) h h') (fun _ _ => False) := by
  haveI : HGet h q _ := ⟨hg⟩
  haveI : BLt q h := ⟨hq⟩
  have fin : ∀ {c : List Value} {o : AObj}, c = lookC v true least most → (((h.push o).set q (.cells c 0)).get q = .cells (lookC v true least most) 0 ∧ Fr (fun i => i = q) h ((h.push o).set q (.cells c 0))) := fun hc => ⟨by rw [Heap.get_set, if_pos rfl, hc], Fr.refl.push.set fun _ => rfl⟩
  refine zxcQ_runs ?_
  refine stp ?_
  cases begun with
  | true =>
    refine stp ?_
    refine D.callT (Compare_ok (a := x.key) (b := v.key) (Rd.mk (n := 4) (by simp; omega) ?_) (Rd.mk (n := 4) (by simp) ?_)) (fun _ _ _ => rfl) (fun r h1 hr => ?_)
    · rw [cellsAt_of (c := lookC x true least most) (by rw [Heap.get_push, if_neg (by omega), hg]; rfl) (by simp)]
      rfl
    · rw [cellsAt_of (c := v.cells) (by rw [Heap.get_push, if_pos rfl]; rfl) (by simp)]
      rfl
    obtain ⟨rfl, rfl⟩ := hr
    refine stp ?_
    have hk : keyLt x.key v.key = decide (cmpB x.key v.key < 0) := rfl
    unfold atS
    refine C.if (fun hge => ?_) (fun hlt => ?_)
    · refine stp ?_
      rw [if_pos (by rw [hk, decide_eq_false (by omega)]; rfl)]
      exact ⟨rfl, fin rfl⟩
    · refine stp ?_
      rw [if_neg (by rw [hk, decide_eq_true (by omega)]; simp)]
      refine D.dec (fun h1 => ?_) (fun h1 => ?_)
      · refine stp ?_
        rw [if_pos (.inl h1)]
        exact ⟨rfl, fin rfl⟩
      · refine stp ?_
        refine C.if (fun h2 => ?_) (fun h2 => ?_)
        · refine stp ?_
          rw [if_pos (.inr h2)]
          exact ⟨rfl, fin rfl⟩
        · refine stp ?_
          rw [if_neg (by omega)]
          exact ⟨rfl, fin rfl⟩
  | false =>
    refine stp ?_
    unfold atS
    rw [if_neg (by simp)]
    refine D.dec (fun h1 => ?_) (fun h1 => ?_)
    · refine stp ?_
      rw [if_pos (.inl h1)]
      exact ⟨rfl, fin rfl⟩
    · refine stp ?_
      refine C.if (fun h2 => ?_) (fun h2 => ?_)
      · refine stp ?_
        rw [if_pos (.inr h2)]
        exact ⟨rfl, fin rfl⟩
      · refine stp ?_
        rw [if_neg (by omega)]
        exact ⟨rfl, fin rfl⟩
end Go.Proofs.YtninaabbojcdpaaGreat.A

namespace Go.Proofs.YtninaabbojcdpaaGreat.A
open Go Go.Vm
set_option maxRecDepth 10000
set_option linter.unusedVariables false
theorem VCheck_ok {h : Heap} {v : Value} {l : List Val} (hv : Rd h 5 v (vcells l) l.length) :
    Runs Tryz.prog T0 (.fn fn_zvcQ) [v] h (fun r h' => r = .int .i64 (checkV l) ∧ Fr (fun _ => False) h h') (fun _ _ => False) := by
  obtain ⟨a, cap, rfl, hlen, hc⟩ := hv
  refine zvcQ_runs ?_
  refine stp ?_
  unfold checkV
  refine C.if (fun h0 => ?_) (fun h0 => ?_)
  · refine stp ?_
    rw [if_pos (by omega)]
    exact ⟨rfl, Fr.refl⟩
  rw [if_neg (by omega)]
  refine stp ?_
  refine C.if (fun h1 => ?_) (fun h1 => ?_)
  · refine stp ?_
    rw [if_pos (by omega)]
    exact ⟨rfl, Fr.refl⟩
  rw [if_neg (by omega)]
  obtain ⟨b, o, sp, rfl, hb, hcc⟩ := hc (by omega)
  refine stp ?_
  refine zvcQ_l0_rule (fun m v18 h' => ∃ k : Nat, k ≤ l.length ∧ m = l.length - k ∧ v18 = .int .i64 k ∧ (∃ x : Val, h'.get h.n = .cells (lookC x (decide (0 < k)) 1 4611686018427387904) 0 ∧ (0 < k → lastV l k = some x)) ∧ h.n < h'.n ∧ Fr (fun _ => False) h h' ∧ stepsV 1 none l = stepsV 1 (lastV l k) (l.drop k)) ?_ l.length ⟨0, by omega, rfl, rfl, ⟨zVal, ?_, by omega⟩, by simp, ?_, rfl⟩
  · rintro m v18 h' x2 x5 x6 x19 x20 x21 x22 x23 x24 x25 x26 x27 ⟨k, hk, rfl, rfl, ⟨x, hg, hx⟩, hn, hf, hst⟩
    refine stp ?_
    refine C.if (fun hlt => ?_) (fun hge => ?_)
    · have hlt : k < l.length := by omega
      have hcc' : cellsAt h' b o (l.length * 5) = some (vcells l) := by rw [cellsAt_keep hf hb id]; exact hcc
      haveI := val_cells hcc' rfl hlt
      refine stp ?_
      refine O.call' (at_ok (x := x) (v := l.getD k zVal) (begun := decide (0 < k)) (by rw [Heap.get_push, if_neg (by omega), hg]) (by simp; omega)) (fun r h2 hr => ?_)
      obtain ⟨rfl, hg2, hf2⟩ := hr
      have hn2 := hf2.n
      simp only [Heap.n_push] at hn2
      have hfh : Fr (fun _ => False) h h2 := Fr.trans (S := fun _ => False) hf (Fr.trans (S := fun i => i = h.n) Fr.refl.push hf2 fun i _ hi => hi) fun i hi ho => by omega
      refine stp ?_
      refine C.ifN (fun he => ?_) (fun he => ?_)
      · refine stp ?_
        rw [hst, stepsV_atS hlt hx, if_neg he]
        exact ⟨rfl, hfh⟩
      · refine stp ?_
        refine zvcQ_l0_again (l.length - (k + 1)) (by omega) ⟨k + 1, by omega, rfl, rfl, ⟨l.getD k zVal, by rw [hg2, decide_eq_true (show 0 < k + 1 by omega)], fun _ => rfl⟩, by omega, hfh, ?_⟩
        rw [hst, stepsV_atS hlt hx, if_pos he]
    · obtain rfl : k = l.length := by omega
      refine stp ?_
      rw [hst, List.drop_length]
      exact ⟨rfl, hf⟩
  · rw [Heap.get_push, if_pos rfl]
    rfl
  · exact Fr.refl.push
end Go.Proofs.YtninaabbojcdpaaGreat.A

namespace Go.Proofs.YtninaabbojcdpaaGreat.A
open Go Go.Vm
set_option maxRecDepth 10000
set_option linter.unusedVariables false
theorem u8eq {a b : UInt8} : ((a.toNat : Int) = (b.toNat : Int)) ↔ a = b := by
  rw [Int.ofNat_inj, UInt8.toNat_inj]
theorem u8lt {a b : UInt8} : ((a.toNat : Int) < (b.toNat : Int)) ↔ a < b := by
  rw [Int.ofNat_lt, UInt8.lt_iff_toNat_lt]
theorem Less_ok {h : Heap} {a0 a1 a2 a3 b0 b1 b2 b3 : UInt8} :
    Runs Tryz.prog T0 (.fn fn_zxbQ) [.agg ⟨[.int .u8 a0.toNat, .int .u8 a1.toNat, .int .u8 a2.toNat, .int .u8 a3.toNat]⟩, .agg ⟨[.int .u8 b0.toNat, .int .u8 b1.toNat, .int .u8 b2.toNat, .int .u8 b3.toNat]⟩] h
      (fun r h' => r = .bool (keyLt [a0, a1, a2, a3] [b0, b1, b2, b3]) ∧ Fr (fun _ => False) h h') (fun _ _ => False) := by
  refine zxbQ_runs ?_
  refine stpP ?_
  rw [keyLt4]
  generalize hh : (h.push (.cells [.int .u8 a0.toNat, .int .u8 a1.toNat, .int .u8 a2.toNat, .int .u8 a3.toNat] 0)).push (.cells [.int .u8 b0.toNat, .int .u8 b1.toNat, .int .u8 b2.toNat, .int .u8 b3.toNat] 0) = h0
  have hA : HGet h0 h.n (.cells [.int .u8 a0.toNat, .int .u8 a1.toNat, .int .u8 a2.toNat, .int .u8 a3.toNat] 0) := by rw [← hh]; exact HGet.push (k := BLt.new) (g := HGet.new)
  generalize hb : (h.push (.cells [.int .u8 a0.toNat, .int .u8 a1.toNat, .int .u8 a2.toNat, .int .u8 a3.toNat] 0)).n = b
  have hB : HGet h0 b (.cells [.int .u8 b0.toNat, .int .u8 b1.toNat, .int .u8 b2.toNat, .int .u8 b3.toNat] 0) := by rw [← hh, ← hb]; exact HGet.new
  have hf : Fr (fun _ => False) h h0 := by rw [← hh]; exact Fr.refl.push.push
  clear hh hb
  haveI := hA
  haveI := hB
  refine zxbQ_l0_rule (fun m v5 h' => ∃ k : Nat, k ≤ 4 ∧ m = 4 - k ∧ v5 = .int .i64 k ∧ h' = h0 ∧ (0 < k → a0 = b0) ∧ (1 < k → a1 = b1) ∧ (2 < k → a2 = b2) ∧ (3 < k → a3 = b3)) ?_ 4 ⟨0, by omega, rfl, rfl, rfl, by omega, by omega, by omega, by omega⟩
  rintro m v5 h' x4 x6 x7 x8 x9 x10 x11 x12 x13 x14 x15 x16 x17 x18 x19 x20 x21 x22 x23 ⟨k, hk, rfl, rfl, rfl, e0, e1, e2, e3⟩
  rcases (show k = 0 ∨ k = 1 ∨ k = 2 ∨ k = 3 ∨ k = 4 by omega) with rfl | rfl | rfl | rfl | rfl
  · refine stpP ?_
    refine C.ifN (fun hne => ?_) (fun heq => ?_)
    · refine stpP ?_
      rw [if_pos (fun h => hne (u8eq.2 h))]
      exact ⟨by congr 1; exact decide_eq_decide.2 u8lt, hf⟩
    · refine stpP ?_
      exact zxbQ_l0_again 3 (by omega) ⟨1, by omega, rfl, rfl, rfl, fun _ => u8eq.1 heq, by omega, by omega, by omega⟩
  · refine stpP ?_
    refine C.ifN (fun hne => ?_) (fun heq => ?_)
    · refine stpP ?_
      rw [if_neg (fun h => h (e0 (by omega))), if_pos (fun h => hne (u8eq.2 h))]
      exact ⟨by congr 1; exact decide_eq_decide.2 u8lt, hf⟩
    · refine stpP ?_
      exact zxbQ_l0_again 2 (by omega) ⟨2, by omega, rfl, rfl, rfl, fun _ => e0 (by omega), fun _ => u8eq.1 heq, by omega, by omega⟩
  · refine stpP ?_
    refine C.ifN (fun hne => ?_) (fun heq => ?_)
    · refine stpP ?_
      rw [if_neg (fun h => h (e0 (by omega))), if_neg (fun h => h (e1 (by omega))), if_pos (fun h => hne (u8eq.2 h))]
      exact ⟨by congr 1; exact decide_eq_decide.2 u8lt, hf⟩
    · refine stpP ?_
      exact zxbQ_l0_again 1 (by omega) ⟨3, by omega, rfl, rfl, rfl, fun _ => e0 (by omega), fun _ => e1 (by omega), fun _ => u8eq.1 heq, by omega⟩
  · refine stpP ?_
    refine C.ifN (fun hne => ?_) (fun heq => ?_)
    · refine stpP ?_
      rw [if_neg (fun h => h (e0 (by omega))), if_neg (fun h => h (e1 (by omega))), if_neg (fun h => h (e2 (by omega))), if_pos (fun h => hne (u8eq.2 h))]
      exact ⟨by congr 1; exact decide_eq_decide.2 u8lt, hf⟩
    · refine stpP ?_
      exact zxbQ_l0_again 0 (by omega) ⟨4, by omega, rfl, rfl, rfl, fun _ => e0 (by omega), fun _ => e1 (by omega), fun _ => e2 (by omega), fun _ => u8eq.1 heq⟩
  · refine stpP ?_
    rw [if_neg (fun h => h (e0 (by omega))), if_neg (fun h => h (e1 (by omega))), if_neg (fun h => h (e2 (by omega))), if_neg (fun h => h (e3 (by omega)))]
    exact ⟨rfl, hf⟩
set_option maxHeartbeats 4000000 in
theorem RVCheck_ok {h : Heap} {v : Value} {l : List Val} (hv : Rd h 5 v (vcells l) l.length) :
    Runs Tryz.prog T0 (.fn fn_zvbQ) [v] h (fun r h' => r = .int .i64 (checkV l) ∧ Fr (fun _ => False) h h') (fun _ _ => False) := by
  obtain ⟨a, cap, rfl, hlen, hc⟩ := hv
  refine zvbQ_runs ?_
  refine stpP ?_
  unfold checkV
  refine C.if (fun h0 => ?_) (fun h0 => ?_)
  · refine stpP ?_
    rw [if_pos (by omega)]
    exact ⟨rfl, Fr.refl⟩
  rw [if_neg (by omega)]
  refine stpP ?_
  refine C.if (fun h1 => ?_) (fun h1 => ?_)
  · refine stpP ?_
    rw [if_pos (by omega)]
    exact ⟨rfl, Fr.refl⟩
  rw [if_neg (by omega)]
  obtain ⟨b, o, sp, rfl, hb, hcc⟩ := hc (by omega)
  refine stpP ?_
  refine zvbQ_l0_rule (fun m v3 h' => ∃ k : Nat, k ≤ l.length ∧ m = l.length - k ∧ v3 = .int .i64 k ∧ Fr (fun _ => False) h h' ∧ stepsV 1 none l = stepsV 1 (lastV l k) (l.drop k)) ?_ l.length ⟨0, by omega, rfl, rfl, Fr.refl, rfl⟩
  rintro m v3 h' x2 x12 x13 x14 x15 x16 x17 x18 x19 x20 x21 x22 x23 x24 x25 x26 x27 x28 x29 x30 x31 x32 x33 x34 x35 x36 x37 x38 x39 x40 x41 x42 x43 x44 x45 x46 x47 x48 x49 x50 ⟨k, hk, rfl, rfl, hf, hst⟩
  refine stpP ?_
  refine C.if (fun hlt => ?_) (fun hge => ?_)
  · have hlt : k < l.length := by omega
    have hcc' : cellsAt h' b o (l.length * 5) = some (vcells l) := by rw [cellsAt_keep hf hb id]; exact hcc
    haveI := val_power hcc' rfl hlt
    haveI := val_key hcc' rfl hlt
    have hin : ∀ x : Val, (0 < k → keyLt x.key (l.getD k zVal).key = true) → atS x (decide (0 < k)) 1 4611686018427387904 (l.getD k zVal) = if (l.getD k zVal).p < 1 ∨ 4611686018427387904 < (l.getD k zVal).p then 3 else 0 := fun x hx => by
      unfold atS
      rw [if_neg]
      by_cases h0 : 0 < k
      · rw [hx h0]; simp
      · simp [h0]
    refine stpP ?_
    refine D.dec (fun h0 => ?_) (fun h0 => ?_)
    · obtain ⟨j, rfl⟩ : ∃ j, k = j + 1 := ⟨k - 1, by omega⟩
      haveI := val_key (k := j) hcc' rfl (by omega)
      refine stpP ?_
      rw [show ((j + 1 : Nat) : Int) - 1 = (j : Nat) from by omega]
      refine D.howT (XOp.mkIndexSl (by omega)) rfl ?_
      refine stpP ?_
      refine D.howT (XOp.mkIndexSl (by omega)) rfl ?_
      refine stpP ?_
      refine D.callT (Less_ok) (fun _ _ _ => rfl) (fun r h2 hr => ?_)
      obtain ⟨rfl, hf2⟩ := hr
      have hf2' := hf.trans' hf2
      have hcc2 : cellsAt h2 b o (l.length * 5) = some (vcells l) := by rw [cellsAt_keep hf2 (hf.lt hb) id]; exact hcc'
      haveI := val_power hcc2 rfl hlt
      rw [stepsV_atS (x := l.getD j zVal) hlt (fun _ => rfl)] at hst
      refine stpP ?_
      refine C.ifB (fun hb => ?_) (fun hb => ?_)
      · have hb : keyLt (l.getD j zVal).key (l.getD (j + 1) zVal).key = false := by simpa using hb
        refine stpP ?_
        rw [hst]
        unfold atS
        rw [hb]
        exact ⟨rfl, hf2'⟩
      · have hb : keyLt (l.getD j zVal).key (l.getD (j + 1) zVal).key = true := by simpa using hb
        rw [hin _ (fun _ => hb)] at hst
        refine stpP ?_
        refine O.dec (fun h1 => ?_) (fun h1 => ?_)
        · refine stpP ?_
          rw [hst, if_pos (show (l.getD (j + 1) zVal).p < 1 ∨ 4611686018427387904 < (l.getD (j + 1) zVal).p from .inl h1)]
          rw [if_neg (show ¬ ((3 : Int) = 0) by decide)]
          exact ⟨rfl, hf2'⟩
        · refine stpP ?_
          refine C.if (fun h3 => ?_) (fun h3 => ?_)
          · refine stpP ?_
            rw [hst, if_pos (show (l.getD (j + 1) zVal).p < 1 ∨ 4611686018427387904 < (l.getD (j + 1) zVal).p from .inr h3)]
            rw [if_neg (show ¬ ((3 : Int) = 0) by decide)]
            exact ⟨rfl, hf2'⟩
          · rw [if_neg (show ¬ ((l.getD (j + 1) zVal).p < 1 ∨ 4611686018427387904 < (l.getD (j + 1) zVal).p) by omega), if_pos rfl] at hst
            refine stpP ?_
            exact zvbQ_l0_again (l.length - (j + 1 + 1)) (by omega) ⟨j + 1 + 1, by omega, rfl, rfl, hf2', hst⟩
    · obtain rfl : k = 0 := by omega
      rw [stepsV_atS (x := zVal) hlt (fun h => absurd h (by omega)), hin _ (fun h => absurd h (by omega))] at hst
      refine stpP ?_
      refine O.dec (fun h1 => ?_) (fun h1 => ?_)
      · refine stpP ?_
        rw [hst, if_pos (show (l.getD 0 zVal).p < 1 ∨ 4611686018427387904 < (l.getD 0 zVal).p from .inl h1)]
        rw [if_neg (show ¬ ((3 : Int) = 0) by decide)]
        exact ⟨rfl, hf⟩
      · refine stpP ?_
        refine C.if (fun h3 => ?_) (fun h3 => ?_)
        · refine stpP ?_
          rw [hst, if_pos (show (l.getD 0 zVal).p < 1 ∨ 4611686018427387904 < (l.getD 0 zVal).p from .inr h3)]
          rw [if_neg (show ¬ ((3 : Int) = 0) by decide)]
          exact ⟨rfl, hf⟩
        · rw [if_neg (show ¬ ((l.getD 0 zVal).p < 1 ∨ 4611686018427387904 < (l.getD 0 zVal).p) by omega), if_pos rfl] at hst
          refine stpP ?_
          exact zvbQ_l0_again (l.length - (0 + 1)) (by omega) ⟨0 + 1, by omega, rfl, rfl, hf, hst⟩
  · obtain rfl : k = l.length := by omega
    refine stpP ?_
    rw [hst, List.drop_length]
    exact ⟨rfl, hf⟩
end Go.Proofs.YtninaabbojcdpaaGreat.A

namespace Go.Proofs.YtninaabbojcdpaaGreat.A
open Go Go.Vm
set_option maxRecDepth 10000
set_option linter.unusedVariables false
structure PVs (h : Heap) (S : Nat → Prop) (p lim : Nat) (st : WSt) : Prop where
  ex : ∃ sv, PW h 0 p sv st.bs lim st.e ∧ S p ∧ ∀ i, ownedBy sv i → S i
theorem PVs.mk' {h : Heap} {S : Nat → Prop} {p lim : Nat} {bs : List UInt8} {e : Int} {sv : Value} (hp : S p) (ho : ∀ i, ownedBy sv i → S i) (hw : PW h 0 p sv bs lim e) : PVs h S p lim ⟨bs, e⟩ := ⟨sv, hw, hp, ho⟩
def WritesV (h : Heap) (S : Nat → Prop) (p lim : Nat) (st : WSt) (r : Value) (h' : Heap) : Prop := r = .int .i64 st.e ∧ PVs h' S p lim st ∧ Fr S h h'
theorem PVs.keep {S S' : Nat → Prop} {h h' : Heap} {p lim : Nat} {st : WSt} (hw : PVs h S p lim st) (hf : Fr S' h h') (hs : ∀ i, S' i → ¬ S i) : PVs h' S p lim st :=
  let ⟨sv, h1, h2, h3⟩ := hw.ex
  ⟨sv, h1.keep hf (fun h => hs _ h h2) fun i hi h => hs _ h (h3 i hi), h2, h3⟩
theorem PVs.none {S : Nat → Prop} {h h' : Heap} {p lim : Nat} {st : WSt} (hw : PVs h S p lim st) (hf : Fr (fun _ => False) h h') : PVs h' S p lim st := hw.keep hf fun _ h => h.elim
theorem PVs.mono {S S' : Nat → Prop} {h : Heap} {p lim : Nat} {st : WSt} (hw : PVs h S p lim st) (hs : ∀ i, i < h.n → S i → S' i) : PVs h S' p lim st :=
  let ⟨sv, h1, h2, h3⟩ := hw.ex
  ⟨sv, h1, hs _ h1.lt h2, fun i hi => hs i (h1.own.lt hi) (h3 i hi)⟩
theorem PVs.of {h : Heap} {lo p lim : Nat} {st : WSt} (hw : PWs h lo p lim st) : PVs h (fun i => lo ≤ i) p lim st :=
  let ⟨sv, h1⟩ := hw.ex
  ⟨sv, ⟨h1.lt, Nat.zero_le _, h1.get, h1.own, h1.apart, fun _ _ => Nat.zero_le _, h1.small⟩, h1.le, h1.above⟩
theorem PVs.to {h : Heap} {lo p lim : Nat} {st : WSt} (hw : PVs h (fun i => lo ≤ i) p lim st) : PWs h lo p lim st :=
  let ⟨sv, h1, h2, h3⟩ := hw.ex
  ⟨sv, ⟨h1.lt, h2, h1.get, h1.own, h1.apart, h3, h1.small⟩⟩
theorem PVs.lt {h : Heap} {S : Nat → Prop} {p lim : Nat} {st : WSt} (hw : PVs h S p lim st) : p < h.n := let ⟨_, h1, _⟩ := hw.ex; h1.lt
theorem put_okV {h : Heap} {S : Nat → Prop} {p lim : Nat} {st : WSt} {may : Bool} {v : Value} {ls : List (Value × List UInt8)} (hw : PVs h S p lim st) (hS : ∀ i, h.n ≤ i → S i) (hv : Rd h 1 v (ls.map (·.1)) ls.length) (hp : Parts h ls) (hn : ls.length < 1048576) (hs : st.bs.length + (flat ls).length < 1048576) :
    Runs Tryz.prog T0 (.fn fn_zgdQ) [.pointer (some ⟨p, 0, none⟩), .bool may, v] h (WritesV h S p lim (putS lim may (flat ls) st)) (fun _ _ => False) := by
  obtain ⟨bs, e⟩ := st
  obtain ⟨sv, hw, hSp, hSo⟩ := hw.ex
  have hs : bs.length + (flat ls).length < 1048576 := hs
  have hw : PW h 0 p sv bs lim e := hw
  have hlt := hw.lt
  obtain ⟨a0, cap0, rfl, hl0, _⟩ := hw.own.rd
  haveI : HGet h p _ := ⟨hw.get⟩
  refine zgdQ_runs ?_
  refine stp ?_
  refine O.call' (Concat_ok hv hp hn (by omega)) (fun r h1 hr => ?_)
  obtain ⟨ho, hnew, hf⟩ := hr
  obtain ⟨a1, cap1, rfl, hl1, _⟩ := ho.rd
  have hw1 := hw.keep hf id fun _ _ => id
  haveI : HGet h1 p _ := ⟨hw1.get⟩
  have hfl : Fr S h h1 := hf.mono fun _ _ h => h.elim
  refine stp ?_
  refine C.ifN (fun he => ?_) (fun he => ?_)
  · refine stp ?_
    unfold putS
    rw [if_pos (by simpa using he)]
    exact ⟨rfl, ⟨_, hw1, hSp, hSo⟩, hfl⟩
  · subst he
    refine stp ?_
    cases may with
    | false =>
      refine stp ?_
      unfold putS
      rw [if_neg (by simp), if_pos rfl]
      refine ⟨rfl, .mk' hSp hSo ⟨by simpa using hw1.lt, Nat.zero_le _, by rw [Heap.get_set, if_pos rfl], hw1.own.keep (S := fun i => i = p) (Fr.refl.set fun _ => rfl) fun i hi hp => hw1.apart (hp ▸ hi), hw1.apart, fun _ _ => Nat.zero_le _, hw1.small⟩, hfl.set fun _ => hSp⟩
    | true =>
      refine stp ?_
      refine C.if (fun hlong => ?_) (fun hfit => ?_)
      · refine stp ?_
        unfold putS
        rw [if_neg (by simp), if_neg (by simp), if_pos (by simp only; omega)]
        refine ⟨rfl, .mk' hSp hSo ⟨by simpa using hw1.lt, Nat.zero_le _, by rw [Heap.get_set, if_pos rfl], hw1.own.keep (S := fun i => i = p) (Fr.refl.set fun _ => rfl) fun i hi hp => hw1.apart (hp ▸ hi), hw1.apart, fun _ _ => Nat.zero_le _, hw1.small⟩, hfl.set fun _ => hSp⟩
      · refine stp ?_
        refine O.append hw1.own (ho.rd.new [.int .u8 0]) (by rw [bcells_len]; omega) (bcells_one _) (by omega) (by omega) (by omega) (fun v' h2 h3 h4 h5 => ?_)
        obtain ⟨a2, cap2, rfl, hl2, _⟩ := h3.rd
        have hp2 : HGet h2 p _ := h4.keep ⟨hw1.get⟩ hw1.lt hw1.apart
        refine stp ?_
        have hnp : ¬ ownedBy (.slice a2 (bs.length + (flat ls).length) cap2) p := fun hi => by
          rcases h5 p hi with h6 | h6
          · exact hw1.apart h6
          · have := hw1.lt; omega
        unfold putS
        rw [if_neg (by simp), if_neg (by simp), if_neg (by simp only; omega)]
        refine ⟨rfl, .mk' (sv := .slice a2 (bs.length + (flat ls).length) cap2) hSp (fun i hi => ?_) ⟨by have := h4.lt hw1.lt; simpa using this, Nat.zero_le _, by rw [Heap.get_set, if_pos rfl], ?_, hnp, fun _ _ => Nat.zero_le _, by simp; omega⟩, Fr.set (Fr.trans (S := S) hfl h4 fun i hi ho' => hSo i ho') fun _ => hSp⟩
        · rcases h5 i hi with h6 | h6
          · exact hSo i h6
          · have := hf.n; exact hS i (by omega)
        · show Own _ 1 (.slice a2 (bs.length + (flat ls).length) cap2) (bcells (bs ++ flat ls)) (bs ++ flat ls).length
          rw [bcells_append, List.length_append]
          exact h3.keep (S := fun i => i = p) (Fr.refl.set fun _ => rfl) fun i hi hp => hnp (hp ▸ hi)
theorem WNum_okV {h : Heap} {S : Nat → Prop} {p lim : Nat} {st : WSt} {n : Int} (hw : PVs h S p lim st) (hS : ∀ i, h.n ≤ i → S i) (hn : n ≤ 9223372036854775807) (hs : st.bs.length + 9 < 1048576) :
    Runs Tryz.prog T0 (.fn fn_zddQ) [.pointer (some ⟨p, 0, none⟩), .int .i64 n] h (WritesV h S p lim (putS lim (decide (0 ≤ n)) (numF n.toNat) st)) (fun _ _ => False) := by
  refine zddQ_runs ?_
  refine stp ?_
  have hm : (if (0 : Int) > n then 0 else n) = ((n.toNat : Nat) : Int) := by split <;> omega
  rw [hm]
  refine O.call' (number_ok (N := n.toNat) (by omega)) (fun r h1 hr => ?_)
  obtain ⟨hrd, hnew, hf⟩ := hr
  have hw1 := hw.none hf
  have hfl := numF_len (n := n.toNat) (by omega)
  obtain ⟨a1, cap1, rfl, hl1, _⟩ := id hrd
  refine stp ?_
  refine O.call' (put_okV (ls := [(.slice a1 (numF n.toNat).length cap1, numF n.toNat)]) (hw1.none Fr.refl.push) (fun i hi => hS i (by have := hf.n; simp at hi; omega)) (rd_lit rfl) ?_ (by simp) (by simp [flat]; omega)) (fun r h2 hr => ?_)
  · intro q hq
    simp at hq
    subst hq
    exact hrd.keep (S := fun _ => False) Fr.refl.push fun _ _ => id
  · refine stp ?_
    rw [show flat [(Value.slice a1 (numF n.toNat).length cap1, numF n.toNat)] = numF n.toNat from by simp [flat]] at hr
    exact ⟨hr.1, hr.2.1, Fr.trans (S := S) (hf.mono fun _ _ h => h.elim) (Fr.trans (S := S) Fr.refl.push hr.2.2 fun _ _ h => h) fun _ _ h => h⟩
theorem WBytes_okV {h : Heap} {S : Nat → Prop} {p lim : Nat} {st : WSt} {v : Value} {l : List UInt8} (hw : PVs h S p lim st) (hS : ∀ i, h.n ≤ i → S i) (hv : Rd h 1 v (bcells l) l.length) (hs : st.bs.length + l.length + 9 < 1048576) :
    Runs Tryz.prog T0 (.fn fn_zzcQ) [.pointer (some ⟨p, 0, none⟩), v] h (WritesV h S p lim (putS lim true (numF l.length ++ l) st)) (fun _ _ => False) := by
  have hv' := hv
  obtain ⟨a0, cap0, rfl, hl0, _⟩ := hv
  refine zzcQ_runs ?_
  refine stp ?_
  refine O.call' (number_ok (N := l.length) (by omega)) (fun r h1 hr => ?_)
  obtain ⟨hrd, hnew, hf⟩ := hr
  have hw1 := hw.none hf
  have hfl := numF_len (n := l.length) (by omega)
  obtain ⟨a1, cap1, rfl, hl1, _⟩ := id hrd
  refine stp ?_
  refine O.call' (put_okV (ls := [(.slice a1 (numF l.length).length cap1, numF l.length), (.slice a0 l.length cap0, l)]) (hw1.none Fr.refl.push) (fun i hi => hS i (by have := hf.n; simp at hi; omega)) (rd_lit rfl) ?_ (by simp) (by simp [flat]; omega)) (fun r h2 hr => ?_)
  · intro q hq
    simp at hq
    rcases hq with rfl | rfl
    · exact hrd.keep (S := fun _ => False) Fr.refl.push fun _ _ => id
    · exact (hv'.keep hf fun _ _ => id).keep (S := fun _ => False) Fr.refl.push fun _ _ => id
  · refine stp ?_
    rw [show flat [(Value.slice a1 (numF l.length).length cap1, numF l.length), (Value.slice a0 l.length cap0, l)] = numF l.length ++ l from by simp [flat]] at hr
    exact ⟨hr.1, hr.2.1, Fr.trans (S := S) (hf.mono fun _ _ h => h.elim) (Fr.trans (S := S) Fr.refl.push hr.2.2 fun _ _ h => h) fun _ _ h => h⟩
theorem WKey_okV {h : Heap} {S : Nat → Prop} {p lim : Nat} {st : WSt} {v : Val} (hw : PVs h S p lim st) (hS : ∀ i, h.n ≤ i → S i) (hs : st.bs.length + 4 < 1048576) :
    Runs Tryz.prog T0 (.fn fn_zcdQ) [.pointer (some ⟨p, 0, none⟩), .agg ⟨[.int .u8 v.k0.toNat, .int .u8 v.k1.toNat, .int .u8 v.k2.toNat, .int .u8 v.k3.toNat]⟩] h (WritesV h S p lim (putS lim true v.key st)) (fun _ _ => False) := by
  refine zcdQ_runs ?_
  refine stp ?_
  refine O.call' (put_okV (ls := [(.slice (some ⟨h.n, 0, none⟩) 4 4, v.key)]) (hw.none Fr.refl.push.push) (fun i hi => hS i (by simp at hi; omega)) (rd_lit rfl) ?_ (by simp) (by simp [flat]; omega)) (fun r h2 hr => ?_)
  · intro q hq
    simp at hq
    subst hq
    exact (rd_lit (h := h) (c := bcells v.key) (es := 0) (n := 4) rfl).keep (S := fun _ => False) Fr.refl.push fun _ _ => id
  · refine stp ?_
    rw [show flat [(Value.slice (some ⟨h.n, 0, none⟩) 4 4, v.key)] = v.key from by simp [flat]] at hr
    exact ⟨hr.1, hr.2.1, Fr.trans (S := S) Fr.refl.push.push hr.2.2 fun _ _ h => h⟩
end Go.Proofs.YtninaabbojcdpaaGreat.A

namespace Go.Proofs.YtninaabbojcdpaaGreat.A
open Go Go.Vm
set_option maxRecDepth 10000
set_option linter.unusedVariables false
def bodyV (l : List Val) : List UInt8 := l.flatMap fun v => v.key ++ numF v.p.toNat
def encV (l : List Val) : List UInt8 := numF l.length ++ bodyV l
theorem stepsV_range {least : Int} : ∀ {l : List Val} {o : Option Val}, stepsV least o l = 0 → ∀ v ∈ l, least ≤ v.p ∧ v.p ≤ 4611686018427387904
  | [], _, _, _, h => by cases h
  | v :: l, o, h, w, hw => by
    have key : ∀ b : Bool, (if b = true then (9 : Int) else if v.p < least ∨ 4611686018427387904 < v.p then 3 else stepsV least (some v) l) = 0 → least ≤ w.p ∧ w.p ≤ 4611686018427387904 := by
      intro b h
      by_cases hA : b = true
      · rw [if_pos hA] at h; cases h
      · rw [if_neg hA] at h
        by_cases hB : v.p < least ∨ 4611686018427387904 < v.p
        · rw [if_pos hB] at h; cases h
        · rw [if_neg hB] at h
          rcases List.mem_cons.1 hw with rfl | hw
          · omega
          · exact stepsV_range h w hw
    exact key _ h
theorem checkV_ok {l : List Val} (h : checkV l = 0) : 0 < l.length ∧ l.length ≤ 64 ∧ stepsV 1 none l = 0 ∧ ∀ v ∈ l, 1 ≤ v.p ∧ v.p ≤ 4611686018427387904 := by
  unfold checkV at h
  split at h
  · cases h
  · split at h
    · cases h
    · exact ⟨by omega, by omega, h, stepsV_range h⟩
theorem bodyV_len : ∀ {l : List Val}, (∀ v ∈ l, 1 ≤ v.p ∧ v.p ≤ 4611686018427387904) → (bodyV l).length ≤ l.length * 13
  | [], _ => by simp [bodyV]
  | v :: l, h => by
    have h1 := bodyV_len (l := l) fun w hw => h w (by simp [hw])
    have h2 := h v (by simp)
    have h3 := numF_len (n := v.p.toNat) (by omega)
    simp only [bodyV, List.flatMap_cons, List.length_append, List.length_cons, List.length_nil] at h1 ⊢
    omega
theorem bodyV_take {l : List Val} {k : Nat} (hk : k < l.length) : bodyV (l.take (k + 1)) = bodyV (l.take k) ++ ((l.getD k zVal).key ++ numF (l.getD k zVal).p.toNat) := by
  have : l.take (k + 1) = l.take k ++ [l.getD k zVal] := by
    rw [List.take_succ_eq_append_getElem hk]
    simp [List.getD, hk]
  rw [this]
  simp [bodyV]
theorem encV_len {l : List Val} (h : checkV l = 0) : (encV l).length ≤ 841 := by
  obtain ⟨h1, h2, _, h3⟩ := checkV_ok h
  have h4 := bodyV_len h3
  have h5 := numF_len (n := l.length) (by omega)
  unfold encV
  rw [List.length_append]
  omega
theorem getD_mem {l : List Val} {k : Nat} (hk : k < l.length) : l.getD k zVal ∈ l := by
  simp [List.getD, hk]
theorem VEncode_ok {h : Heap} {v : Value} {l : List Val} (hv : Rd h 5 v (vcells l) l.length) : Runs Tryz.prog T0 (.fn fn_zwcQ) [v] h
    (fun r h' => ∃ w, r = .tuple ⟨[w, .int .i64 (checkV l)]⟩ ∧ Own h' 1 w (bcells (if checkV l = 0 then encV l else [])) (if checkV l = 0 then encV l else []).length ∧ (∀ i, ownedBy w i → h.n ≤ i) ∧ Fr (fun _ => False) h h') (fun _ _ => False) := by
  have k1 := VCheck_ok hv
  obtain ⟨a, cap, rfl, hlen, hc⟩ := hv
  refine zwcQ_runs ?_
  refine stp ?_
  refine O.call' k1 (fun r h1 hr => ?_)
  obtain ⟨rfl, hf1⟩ := hr
  have hn1 := hf1.n
  refine stp ?_
  refine C.ifN (fun hc => ?_) (fun hz => ?_)
  · refine stp ?_
    rw [if_neg hc]
    exact ⟨_, rfl, .none, fun i h => h.elim, hf1⟩
  · refine stp ?_
    obtain ⟨c1, c2, c3, c4⟩ := checkV_ok hz
    obtain ⟨b, o, sp, rfl, hb, hcc⟩ := hc (by omega)
    have hnl := numF_len (n := l.length) (by omega)
    refine O.call' (NewWriter_ok (lim := 1048576) (by omega)) (fun r h2 hr => ?_)
    obtain ⟨rfl, hw2, hf2⟩ := hr
    have hn2 := hf2.n
    refine stp ?_
    refine O.call' (WNum_ok hw2 (by omega) (by simp only [List.length_nil]; omega)) (fun r h3 hr => ?_)
    obtain ⟨rfl, hw3, hf3⟩ := hr
    have hn3 := hf3.n
    rw [decide_eq_true (by omega), putS_fit (by simp only [List.length_nil, Int.toNat_natCast]; omega), List.nil_append, Int.toNat_natCast] at hw3
    have f13 : Fr (fun i => h1.n ≤ i) h1 h3 := (hf2.mono fun _ _ h => h.elim).trans' hf3
    have f03 : Fr (fun i => h1.n ≤ i) h h3 := Fr.trans (S := fun i => h1.n ≤ i) (hf1.mono fun _ _ h => h.elim) f13 fun _ _ h => h
    refine stp ?_
    refine zwcQ_l0_rule (fun m v24 h' => ∃ k : Nat, k ≤ l.length ∧ m = l.length - k ∧ v24 = .int .i64 k ∧ PVs h' (fun i => h1.n ≤ i) h1.n 1048576 ⟨numF l.length ++ bodyV (l.take k), 0⟩ ∧ Fr (fun i => h1.n ≤ i) h h') ?_ l.length ⟨0, by omega, rfl, rfl, by simpa [bodyV] using PVs.of hw3, f03⟩
    rintro m v24 h' x8 x25 x26 x27 x28 x29 x30 x31 x32 x33 x34 x35 x36 ⟨k, hk, rfl, rfl, hw, hf⟩
    refine stp ?_
    refine C.if (fun hlt => ?_) (fun hge => ?_)
    · have hlt : k < l.length := by omega
      have hcc' : cellsAt h' b o (l.length * 5) = some (vcells l) := by rw [cellsAt_keep hf hb (by omega)]; exact hcc
      haveI := val_cells hcc' rfl hlt
      have hr := c4 _ (getD_mem hlt)
      have hbl := bodyV_len (l := l.take k) fun v hv => c4 v (List.mem_of_mem_take hv)
      rw [List.length_take] at hbl
      have hmin : min k l.length = k := by omega
      rw [hmin] at hbl
      have hpl := numF_len (n := (l.getD k zVal).p.toNat) (by omega)
      refine stp ?_
      have hlt' := hw.lt
      have hS : ∀ i, (h'.push (.cells (l.getD k zVal).cells 0)).n ≤ i → h1.n ≤ i ∧ i ≠ h'.n := fun i hi => by simp at hi; omega
      have hw0 : PVs (h'.push (.cells (l.getD k zVal).cells 0)) (fun i => h1.n ≤ i ∧ i ≠ h'.n) h1.n 1048576 ⟨numF l.length ++ bodyV (l.take k), 0⟩ := (hw.mono fun i hi hs => ⟨hs, by omega⟩).none Fr.refl.push
      refine O.call' (WKey_okV (v := l.getD k zVal) hw0 hS (by simp only [List.length_append]; omega)) (fun r h4 hr => ?_)
      obtain ⟨rfl, hw4, hf4⟩ := hr
      rw [putS_fit (by simp only [List.length_append, List.length_cons, List.length_nil]; omega)] at hw4
      have hn4 := hf4.n
      have hq4 : HGet h4 h'.n (.cells (l.getD k zVal).cells 0) := hf4.keep HGet.new (by simp) (by simp)
      haveI := hq4
      simp only [Heap.n_push] at hn4
      refine stp ?_
      refine O.call' (WNum_okV hw4 (fun i hi => by omega) (by omega) (by simp only [List.length_append, List.length_cons, List.length_nil]; omega)) (fun r h5 hr => ?_)
      obtain ⟨rfl, hw5, hf5⟩ := hr
      rw [decide_eq_true (by omega), putS_fit (by simp only [List.length_append, List.length_cons, List.length_nil]; omega)] at hw5
      refine stp ?_
      refine zwcQ_l0_again (l.length - (k + 1)) (by omega) ⟨k + 1, by omega, rfl, rfl, ?_, ?_⟩
      · rw [bodyV_take hlt, ← List.append_assoc, ← List.append_assoc]
        exact hw5.mono fun i _ hs => hs.1
      · exact Fr.trans (S := fun i => h1.n ≤ i) hf ((Fr.trans (S := fun i => h1.n ≤ i ∧ i ≠ h'.n) Fr.refl.push (hf4.trans' hf5) fun _ _ h => h).mono fun _ _ h => h.1) fun _ _ h => h
    · obtain rfl : k = l.length := by omega
      rw [List.take_length] at hw
      refine stp ?_
      refine O.call' (Done_ok hw.to) (fun r h4 hr => ?_)
      obtain ⟨w, rfl, ho, hnew, hf4⟩ := hr
      refine stp ?_
      rw [hz] at *
      rw [if_pos rfl]
      refine ⟨w, rfl, by simpa [encV] using ho, fun i hi => ?_, Fr.trans (S := fun _ => False) (S' := fun i => h1.n ≤ i) Fr.refl (hf.trans' (hf4.mono fun _ _ h => h.elim)) fun i hi h => by omega⟩
      have := hnew i hi
      have := hf.n
      omega
end Go.Proofs.YtninaabbojcdpaaGreat.A

namespace Go.Proofs.YtninaabbojcdpaaGreat.A
open Go Go.Vm
set_option maxRecDepth 10000
set_option linter.unusedVariables false
theorem Key_okD {h : Heap} {lo p lim : Nat} {st : WSt} {v : Val} (hw : DWs h lo p lim st) (hlim : lim < 1048576 ∨ st.bs.length + 4 < 1048576) :
    Runs Tryz.prog T0 (.fn fn_zqbQ) [.pointer (some ⟨p, 0, none⟩), .agg ⟨[.int .u8 v.k0.toNat, .int .u8 v.k1.toNat, .int .u8 v.k2.toNat, .int .u8 v.k3.toNat]⟩] h (DWrites h lo p lim (putS lim true v.key st)) (fun _ _ => False) := by
  refine zqbQ_runs ?_
  refine stp ?_
  have hp : Fr (fun _ => False) h ((h.push (.cells (bcells v.key) 0)).push (.cells [] 0)) := Fr.refl.push.push
  refine O.append (size := 1) (bytes := 1) (n := 0) (c := []) (m := 4) (d := bcells v.key) (.lit (q := h.n + 1) (es := 0) (by simp) (by rw [Heap.get_push, if_pos (by simp)])) (Rd.new (Rd.mk (by simp; omega) (by rw [cellsAt_of (c := bcells v.key) (by rw [Heap.get_push, if_neg (by simp), Heap.get_push, if_pos rfl]; rfl) (by simp [bcells_len]), List.drop_zero, List.take_of_length_le (by simp [bcells_len])])) _) (by simp [bcells_len]) (bcells_one _) (by omega) (by omega) (by omega) (fun v1 h1 ho1 hf1 hnew1 => ?_)
  rw [Nat.zero_add, List.nil_append] at ho1
  have f1 : Fr (fun _ => False) h h1 := Fr.trans (S := fun _ => False) hp hf1 fun i hi e => by have : h.n + 1 = i := e; omega
  refine stp ?_
  refine O.call' (Put_okD (l := v.key) (hw.none f1) ho1.rd hlim (by simp)) (fun r h2 hr => ?_)
  obtain ⟨rfl, hw2, hf2⟩ := hr
  refine stp ?_
  exact ⟨rfl, hw2, Fr.trans' (f1.mono fun _ _ h => h.elim) hf2⟩
theorem RVEncode_ok {h : Heap} {v : Value} {l : List Val} (hv : Rd h 5 v (vcells l) l.length) (hs : l.length < 1048576) : Runs Tryz.prog T0 (.fn fn_zwbQ) [v] h
    (fun r h' => ∃ w, r = .tuple ⟨[w, .int .i64 (checkV l)]⟩ ∧ Own h' 1 w (bcells (if checkV l = 0 then encV l else [])) (if checkV l = 0 then encV l else []).length ∧ (∀ i, ownedBy w i → h.n ≤ i) ∧ Fr (fun _ => False) h h') (fun _ _ => False) := by
  have k1 := RVCheck_ok hv
  obtain ⟨a, cap, rfl, hlen, hc⟩ := hv
  refine zwbQ_runs ?_
  refine stp ?_
  refine O.call' k1 (fun r h1 hr => ?_)
  obtain ⟨rfl, hf1⟩ := hr
  have hn1 := hf1.n
  refine stp ?_
  refine C.ifN (fun hc => ?_) (fun hz => ?_)
  · refine stp ?_
    rw [if_neg hc]
    exact ⟨_, rfl, .none, fun i h => h.elim, hf1⟩
  · refine stp ?_
    obtain ⟨c1, c2, c3, c4⟩ := checkV_ok hz
    obtain ⟨b, o, sp, rfl, hb, hcc⟩ := hc (by omega)
    have hnl := numF_len (n := l.length) (by omega)
    refine O.call' (NewWriter_okD (lim := 65536) (by omega)) (fun r h2 hr => ?_)
    obtain ⟨rfl, hw2, hf2⟩ := hr
    have hn2 := hf2.n
    refine stp ?_
    refine O.call' (Num_okD hw2 (by omega) (.inl (by omega))) (fun r h3 hr => ?_)
    obtain ⟨rfl, hw3, hf3⟩ := hr
    have hn3 := hf3.n
    rw [decide_eq_true (by omega), putS_fit (by simp only [List.length_nil, Int.toNat_natCast]; omega), List.nil_append, Int.toNat_natCast] at hw3
    have f03 : Fr (fun i => h1.n ≤ i) h h3 := Fr.trans (S := fun i => h1.n ≤ i) (hf1.mono fun _ _ h => h.elim) (Fr.trans (S := fun i => h1.n ≤ i) (hf2.mono fun _ _ h => h.elim) hf3 fun i _ e => by omega) fun _ _ h => h
    refine stp ?_
    refine zwbQ_l0_rule (fun m v7 h' => ∃ k : Nat, k ≤ l.length ∧ m = l.length - k ∧ v7 = .int .i64 k ∧ DWs h' h1.n h1.n 65536 ⟨numF l.length ++ bodyV (l.take k), 0⟩ ∧ Fr (fun i => h1.n ≤ i) h h') ?_ l.length ⟨0, by omega, rfl, rfl, by simpa [bodyV] using hw3, f03⟩
    rintro m v7 h' x21 x22 x23 x24 x25 x26 x27 x28 x29 x30 x31 x32 x33 x34 x35 x36 x37 x38 x39 x40 ⟨k, hk, rfl, rfl, hw, hf⟩
    refine stp ?_
    refine C.if (fun hlt => ?_) (fun hge => ?_)
    · have hlt : k < l.length := by omega
      have hcc' : cellsAt h' b o (l.length * 5) = some (vcells l) := by rw [cellsAt_keep hf hb (by omega)]; exact hcc
      haveI := val_key hcc' rfl hlt
      have hr := c4 _ (getD_mem hlt)
      have hbl := bodyV_len (l := l.take k) fun v hv => c4 v (List.mem_of_mem_take hv)
      rw [List.length_take] at hbl
      have hmin : min k l.length = k := by omega
      rw [hmin] at hbl
      have hpl := numF_len (n := (l.getD k zVal).p.toNat) (by omega)
      refine stp ?_
      refine O.call' (Key_okD (v := l.getD k zVal) hw (.inl (by omega))) (fun r h4 hr => ?_)
      obtain ⟨rfl, hw4, hf4⟩ := hr
      rw [putS_fit (by simp only [List.length_append, List.length_cons, List.length_nil]; omega)] at hw4
      have hn4 := hf4.n
      have f4 : Fr (fun i => h1.n ≤ i) h h4 := Fr.trans (S := fun i => h1.n ≤ i) hf hf4 fun i _ e => by omega
      have hcc4 : cellsAt h4 b o (l.length * 5) = some (vcells l) := by rw [cellsAt_keep f4 hb (by omega)]; exact hcc
      haveI := val_power hcc4 rfl hlt
      refine stp ?_
      refine O.call' (Num_okD hw4 (by omega) (.inl (by omega))) (fun r h5 hr => ?_)
      obtain ⟨rfl, hw5, hf5⟩ := hr
      rw [decide_eq_true (by omega), putS_fit (by simp only [List.length_append, List.length_cons, List.length_nil]; omega)] at hw5
      refine stp ?_
      refine zwbQ_l0_again (l.length - (k + 1)) (by omega) ⟨k + 1, by omega, rfl, rfl, ?_, Fr.trans (S := fun i => h1.n ≤ i) f4 hf5 fun i _ e => by omega⟩
      rw [bodyV_take hlt, ← List.append_assoc, ← List.append_assoc]
      exact hw5
    · obtain rfl : k = l.length := by omega
      rw [List.take_length] at hw
      refine stp ?_
      have hel := encV_len hz
      refine O.call' (Done_okD hw (by show (encV l).length < _; omega)) (fun r h4 hr => ?_)
      obtain ⟨w, rfl, ho, hnew, hf4⟩ := hr
      refine stp ?_
      rw [hz] at *
      rw [if_pos rfl]
      refine ⟨w, rfl, by simpa [encV] using ho, fun i hi => ?_, Fr.trans (S := fun _ => False) (S' := fun i => h1.n ≤ i) Fr.refl (hf.trans' (hf4.mono fun _ _ h => h.elim)) fun i hi h => by omega⟩
      have := hnew i hi
      have := hf.n
      omega
end Go.Proofs.YtninaabbojcdpaaGreat.A

namespace Go.Proofs.YtninaabbojcdpaaGreat.A
open Go Go.Vm
set_option maxRecDepth 10000
set_option linter.unusedVariables false
theorem mkStoreN {P : Program} {ts : List Value} {h : Heap} {a x : Operand} {v : Value} {o r n es : Nat} {sp : Option Nat} {xs c : List Value} (ho : o + xs.length ≤ c.length) (h1 : xs.all Value.oneCell' = true) (hn : n = xs.length) [e : Ev ts a (.pointer (some ⟨r, o, sp⟩))] [f : Ev ts x v] [k : CellsOf v xs] [g : HGet h r (.cells c es)] :
    xop P (eval ts) h (.store n a x) = .ok undef (h.set r (.cells (over c o xs) es)) := by
  have hp : putAt h r o xs = some (h.set r (.cells (over c o xs) es)) := by
    unfold putAt
    rw [g.eq]
    show (if o + xs.length ≤ c.length ∧ xs.all Value.oneCell' = true then some (h.set r (.cells (over c o xs) es)) else none) = _
    rw [if_pos ⟨ho, h1⟩]
  subst hn
  simp only [xop, e.eq, f.eq, k.eq, k.len, hp, if_true]
theorem SameVals_same {h : Heap} {v w : Value} {l : List Val} (hv : Rd h 5 v (vcells l) l.length) (hw : Rd h 5 w (vcells l) l.length) (hs : l.length < 1048576) :
    Runs Tryz.prog T0 (.fn fn_zfbQ) [v, w] h (fun r h' => r = .bool true ∧ h' = h) (fun _ _ => False) := by
  obtain ⟨a, cap, rfl, hlen, hc⟩ := hv
  obtain ⟨a', cap', rfl, hlen', hc'⟩ := hw
  refine zfbQ_runs ?_
  refine stpP ?_
  refine zfbQ_l0_rule (fun m v5 v6 h' => ∃ k : Nat, k ≤ l.length ∧ m = l.length - k ∧ v6 = .int .i64 k ∧ v5 = .bool true ∧ h' = h) ?_ l.length ⟨0, by omega, rfl, rfl, by simp, rfl⟩
  rintro m v5 v6 h' x12 x13 x14 x15 x16 x17 x18 x19 x20 x21 x22 x23 x24 x25 x26 x27 x28 x29 ⟨k, hk, rfl, rfl, rfl, rfl⟩
  refine stpP ?_
  refine C.if (fun hlt => ?_) (fun hge => ?_)
  · have hlt : k < l.length := by omega
    obtain ⟨b, o, sp, rfl, hb, hcc⟩ := hc (by omega)
    obtain ⟨b', o', sp', rfl, hb', hcc'⟩ := hc' (by omega)
    haveI := val_cells hcc rfl hlt
    haveI := val_cells hcc' rfl hlt
    refine stpP ?_
    rw [same_self]
    exact zfbQ_l0_again (l.length - (k + 1)) (by omega) ⟨k + 1, by omega, rfl, rfl, rfl, rfl⟩
  · refine stpP ?_
    exact ⟨rfl, rfl⟩
theorem Rd.block_lt {h : Heap} {size n : Nat} {v : Value} {c : List Value} (hv : Rd h size v c n) {i : Nat} (hi : blockOf v i) : i < h.n := by
  obtain ⟨a, cap, rfl, _, hc⟩ := hv
  cases a with
  | none => exact hi.elim
  | some a =>
    obtain ⟨h1, h2⟩ := hi
    obtain ⟨b, o, sp, e, hb, _⟩ := hc h2
    cases e
    subst h1
    exact hb
end Go.Proofs.YtninaabbojcdpaaGreat.A

namespace Go.Proofs.YtninaabbojcdpaaGreat.A
open Go Go.Vm
set_option maxRecDepth 10000
set_option linter.unusedVariables false
structure Vote where
  at' : Int
  sig : Nat
abbrev Vote.cells (v : Vote) : List Value := [.int .i64 v.at', .int .u64 v.sig]
abbrev zVote : Vote := ⟨0, 0⟩
def tcells (l : List Vote) : List Value := l.flatMap Vote.cells
theorem tcells_nil : tcells [] = [] := rfl
theorem tcells_cons (v : Vote) (l : List Vote) : tcells (v :: l) = v.cells ++ tcells l := rfl
theorem tcells_len : ∀ l : List Vote, (tcells l).length = l.length * 2
  | [] => rfl
  | v :: l => by rw [tcells_cons, List.length_append, tcells_len l]; simp; omega
theorem tcells_at : ∀ {l : List Vote} {k : Nat}, k < l.length → ((tcells l).drop (k * 2)).take 2 = (l.getD k zVote).cells
  | v :: l, 0, _ => by rw [tcells_cons]; rfl
  | v :: l, k + 1, h => by
    have := tcells_at (l := l) (k := k) (by simpa using h)
    rw [tcells_cons, show (k + 1) * 2 = v.cells.length + k * 2 from by simp; omega, ← List.drop_drop, List.drop_left]
    exact this
theorem vote_cells {h : Heap} {b o n k : Nat} {l : List Vote} (hc : cellsAt h b o (n * 2) = some (tcells l)) (hn : l.length = n) (hk : k < n) : Cells h b (o + k * 2) 2 (l.getD k zVote).cells := ⟨by
  rw [cellsAt_sub hc (by omega), tcells_at (by omega)]⟩
theorem vote_at {h : Heap} {b o n k : Nat} {l : List Vote} (hc : cellsAt h b o (n * 2) = some (tcells l)) (hn : l.length = n) (hk : k < n) : Cell h b (o + k * 2) (.int .i64 (l.getD k zVote).at') := ⟨by
  have h5 := (vote_cells hc hn hk).eq
  have := cellsAt_sub (k := 0) (m := 1) h5 (by omega)
  simpa using this⟩
def voteS (last : Int) (v : Vote) : Int := if v.at' < 0 ∨ 64 ≤ v.at' then 3 else if v.at' ≤ last then 9 else 0
def stepsC : Int → List Vote → Int
  | _, [] => 0
  | last, v :: l => if voteS last v = 0 then stepsC v.at' l else voteS last v
def checkC (ht : Int) (l : List Vote) : Int := if ht < 1 ∨ 1073741824 < ht then 3 else if 64 < l.length then 4 else stepsC (-1) l
def lastC (l : List Vote) (k : Nat) : Int := if k = 0 then -1 else (l.getD (k - 1) zVote).at'
theorem dropC {l : List Vote} {k : Nat} (hk : k < l.length) : l.drop k = l.getD k zVote :: l.drop (k + 1) := by
  rw [List.drop_eq_getElem_cons hk]
  simp [List.getD, hk]
theorem stepsC_at {l : List Vote} {k : Nat} (hk : k < l.length) : stepsC (lastC l k) (l.drop k) = if voteS (lastC l k) (l.getD k zVote) = 0 then stepsC (lastC l (k + 1)) (l.drop (k + 1)) else voteS (lastC l k) (l.getD k zVote) := by
  rw [dropC hk]
  rfl
theorem rises1_ok {h : Heap} {a : Nat} {v : Vote} {last : Int} (hg : h.get a = .cells [.int .i64 last] 0) (ha : a < h.n) :
    Runs Tryz.prog T0 (.fn fn_zmQ) [.agg ⟨v.cells⟩, .pointer (some ⟨a, 0, none⟩)] h
      (fun r h' => r = .int .i64 (voteS last v) ∧ (voteS last v = 0 → h'.get a = .cells [.int .i64 v.at'] 0) ∧ Fr (fun i => i = a) h h') (fun _ _ => False) := by
  haveI : HGet h a _ := ⟨hg⟩
  haveI : BLt a h := ⟨ha⟩
  refine zmQ_runs ?_
  refine stpP ?_
  unfold voteS
  refine O.dec (fun h0 => ?_) (fun h0 => ?_)
  · refine stpP ?_
    rw [if_pos (show v.at' < 0 ∨ 64 ≤ v.at' from .inl h0)]
    exact ⟨rfl, fun h => absurd h (by decide), Fr.refl.push⟩
  · refine stpP ?_
    refine C.if (fun h1 => ?_) (fun h1 => ?_)
    · refine stpP ?_
      rw [if_pos (show v.at' < 0 ∨ 64 ≤ v.at' from .inr h1)]
      exact ⟨rfl, fun h => absurd h (by decide), Fr.refl.push⟩
    · rw [if_neg (show ¬ (v.at' < 0 ∨ 64 ≤ v.at') by omega)]
      refine stpP ?_
      refine C.if (fun h2 => ?_) (fun h2 => ?_)
      · refine stpP ?_
        rw [if_pos h2]
        exact ⟨rfl, fun h => absurd h (by decide), Fr.refl.push⟩
      · refine stpP ?_
        rw [if_neg h2]
        exact ⟨rfl, fun _ => by rw [Heap.get_set, if_pos rfl], Fr.refl.push.set fun _ => rfl⟩
theorem rises_ok {h : Heap} : Runs Tryz.prog T0 (.fn fn_zlQ) [] h (fun r h' => r = .func (.func fn_zmQ) ⟨[]⟩ ⟨[.pointer (some ⟨h.n, 0, none⟩)]⟩ ∧ h' = h.push (.cells [.int .i64 (-1)] 0)) (fun _ _ => False) := by
  refine zlQ_runs (v := undef) ?_
  refine stpP ?_
  exact ⟨rfl, rfl⟩
theorem CCheck_ok {h : Heap} {ht : Int} {hs : List UInt8} {sv : Value} {l : List Vote} (hl : hs.length = 32) (hv : Rd h 2 sv (tcells l) l.length) :
    Runs Tryz.prog T0 (.fn fn_zjQ) [.agg ⟨.int .i64 ht :: (bcells hs ++ [sv])⟩] h (fun r h' => r = .int .i64 (checkC ht l) ∧ Fr (fun _ => False) h h') (fun _ _ => False) := by
  obtain ⟨a, cap, rfl, hlen, hc⟩ := hv
  haveI := l32 hl
  refine zjQ_runs ?_
  refine stpP ?_
  unfold checkC
  refine O.dec (fun h0 => ?_) (fun h0 => ?_)
  · refine stpP ?_
    rw [if_pos (show ht < 1 ∨ 1073741824 < ht from .inl h0)]
    exact ⟨rfl, Fr.refl.push⟩
  refine stpP ?_
  refine C.if (fun h1 => ?_) (fun h1 => ?_)
  · refine stpP ?_
    rw [if_pos (show ht < 1 ∨ 1073741824 < ht from .inr h1)]
    exact ⟨rfl, Fr.refl.push⟩
  rw [if_neg (show ¬ (ht < 1 ∨ 1073741824 < ht) by omega)]
  refine stpP ?_
  refine C.if (fun h2 => ?_) (fun h2 => ?_)
  · refine stpP ?_
    rw [if_pos (by omega)]
    exact ⟨rfl, Fr.refl.push⟩
  rw [if_neg (by omega)]
  refine stpP ?_
  refine O.call' rises_ok (fun r h3 hr => ?_)
  obtain ⟨rfl, rfl⟩ := hr
  refine stpP ?_
  refine zjQ_l0_rule (fun m v25 h' => ∃ k : Nat, k ≤ l.length ∧ m = l.length - k ∧ v25 = .int .i64 k ∧ h'.get (h.n + 1) = .cells [.int .i64 (lastC l k)] 0 ∧ h.n + 1 < h'.n ∧ Fr (fun _ => False) h h' ∧ stepsC (-1) l = stepsC (lastC l k) (l.drop k)) ?_ l.length ⟨0, by omega, rfl, rfl, ?_, by simp, Fr.refl.push.push, rfl⟩
  · rintro m v25 h' x2 x5 x6 x26 x27 x28 x29 x30 x31 x32 x33 x34 x35 ⟨k, hk, rfl, rfl, hg, hn, hf, hst⟩
    refine stpP ?_
    refine C.if (fun hlt => ?_) (fun hge => ?_)
    · have hlt : k < l.length := by omega
      obtain ⟨b, o, sp, rfl, hb, hcc⟩ := hc (by omega)
      have hcc' : cellsAt h' b o (l.length * 2) = some (tcells l) := by rw [cellsAt_keep hf hb id]; exact hcc
      haveI := vote_cells hcc' rfl hlt
      refine stpP ?_
      refine O.call' (rises1_ok (v := l.getD k zVote) (last := lastC l k) (a := h.n + 1) (by rw [Heap.get_push, if_neg (by omega), hg]) (by simp; omega)) (fun r h2 hr => ?_)
      obtain ⟨rfl, hg2, hf2⟩ := hr
      have hn2 := hf2.n
      simp only [Heap.n_push] at hn2
      have hfh : Fr (fun _ => False) h h2 := Fr.trans (S := fun _ => False) hf (Fr.trans (S := fun i => i = h.n + 1) Fr.refl.push hf2 fun i _ hi => hi) fun i hi ho => by omega
      refine stpP ?_
      refine C.ifN (fun he => ?_) (fun he => ?_)
      · refine stpP ?_
        rw [hst, stepsC_at hlt, if_neg he]
        exact ⟨rfl, hfh⟩
      · refine stpP ?_
        refine zjQ_l0_again (l.length - (k + 1)) (by omega) ⟨k + 1, by omega, rfl, rfl, by rw [hg2 he]; rfl, by omega, hfh, ?_⟩
        rw [hst, stepsC_at hlt, if_pos he]
    · obtain rfl : k = l.length := by omega
      refine stpP ?_
      rw [hst, List.drop_length]
      exact ⟨rfl, hf⟩
  · rw [Heap.get_push, if_pos (by simp)]
    rfl
end Go.Proofs.YtninaabbojcdpaaGreat.A

namespace Go.Proofs.YtninaabbojcdpaaGreat.A
open Go Go.Vm
set_option maxRecDepth 10000
set_option linter.unusedVariables false
structure Cm where
  height : Int
  hash : List UInt8
  votes : List Vote
abbrev Cm.cells (x : Cm) (sv : Value) : List Value := .int .i64 x.height :: (bcells x.hash ++ [sv])
abbrev zCm : Cm := ⟨0, zb32, []⟩
end Go.Proofs.YtninaabbojcdpaaGreat.A

namespace Go.Proofs.YtninaabbojcdpaaGreat.A
open Go Go.Vm
set_option maxRecDepth 10000
set_option linter.unusedVariables false
def zeroHd : Hd := ⟨[], 0, 0, zb32, zb32, zb32, zb32⟩
end Go.Proofs.YtninaabbojcdpaaGreat.A

namespace Go.Proofs.YtninaabbojcdpaaGreat.A
open Go Go.Vm
set_option maxRecDepth 10000
set_option linter.unusedVariables false
structure Bk where
  h : Hd
  c : Cm
  vals : List Val
abbrev zBk : Bk := ⟨zeroHd, zCm, []⟩
structure Bk.ok (x : Bk) : Prop where
  h : x.h.ok
  hash : x.c.hash.length = 32
  votes : x.c.votes.length ≤ 64
  vals : x.vals.length ≤ 64
abbrev Bk.cells (x : Bk) (sv sl : Value) : List Value := .string ⟨⟨x.h.chain⟩⟩ :: .int .i64 x.h.height :: .int .i64 x.h.time :: (bcells x.h.prev ++ (bcells x.h.vals ++ (bcells x.h.next ++ (bcells x.h.app ++ (.int .i64 x.c.height :: (bcells x.c.hash ++ [sv, sl]))))))
abbrev zBc : List Value := .string ⟨⟨[]⟩⟩ :: .int .i64 0 :: .int .i64 0 :: (z32 ++ (z32 ++ (z32 ++ (z32 ++ (.int .i64 0 :: (z32 ++ [.slice none 0 0, .slice none 0 0]))))))
structure BkOwn (h : Heap) (lo : Nat) (x : Bk) (sv sl : Value) : Prop where
  votes : Own h 2 sv (tcells x.c.votes) x.c.votes.length
  vals : Own h 5 sl (vcells x.vals) x.vals.length
  vnew : ∀ i, ownedBy sv i → lo ≤ i
  lnew : ∀ i, ownedBy sl i → lo ≤ i
  apart : ∀ i, ownedBy sv i → ¬ ownedBy sl i
theorem BkOwn.keep {S : Nat → Prop} {h h' : Heap} {lo : Nat} {x : Bk} {sv sl : Value} (hb : BkOwn h lo x sv sl) (hf : Fr S h h') (hs : ∀ i, S i → i < lo ∨ h.n ≤ i) : BkOwn h' lo x sv sl :=
  ⟨hb.votes.keep hf fun i hi h => (by have := hb.vnew i hi; have := hb.votes.lt hi; have := hs i h; omega), hb.vals.keep hf fun i hi h => (by have := hb.lnew i hi; have := hb.vals.lt hi; have := hs i h; omega), hb.vnew, hb.lnew, hb.apart⟩
theorem BkOwn.zero {h : Heap} {lo : Nat} : BkOwn h lo zBk (.slice none 0 0) (.slice none 0 0) := ⟨.none, .none, fun i hi => hi.elim, fun i hi => hi.elim, fun i hi => hi.elim⟩
end Go.Proofs.YtninaabbojcdpaaGreat.A

namespace Go.Proofs.YtninaabbojcdpaaGreat.A
open Go Go.Vm
set_option maxRecDepth 10000
set_option linter.unusedVariables false
theorem SameVotes_same {h : Heap} {v w : Value} {l : List Vote} (hv : Rd h 2 v (tcells l) l.length) (hw : Rd h 2 w (tcells l) l.length) (hs : l.length < 1048576) :
    Runs Tryz.prog T0 (.fn fn_zgbQ) [v, w] h (fun r h' => r = .bool true ∧ h' = h) (fun _ _ => False) := by
  obtain ⟨a, cap, rfl, hlen, hc⟩ := hv
  obtain ⟨a', cap', rfl, hlen', hc'⟩ := hw
  refine zgbQ_runs ?_
  refine stpP ?_
  refine zgbQ_l0_rule (fun m v5 v6 h' => ∃ k : Nat, k ≤ l.length ∧ m = l.length - k ∧ v6 = .int .i64 k ∧ v5 = .bool true ∧ h' = h) ?_ l.length ⟨0, by omega, rfl, rfl, by simp, rfl⟩
  rintro m v5 v6 h' x12 x13 x14 x15 x16 x17 x18 x19 x20 x21 x22 x23 x24 x25 x26 x27 x28 x29 ⟨k, hk, rfl, rfl, rfl, rfl⟩
  refine stpP ?_
  refine C.if (fun hlt => ?_) (fun hge => ?_)
  · have hlt : k < l.length := by omega
    obtain ⟨b, o, sp, rfl, hb, hcc⟩ := hc (by omega)
    obtain ⟨b', o', sp', rfl, hb', hcc'⟩ := hc' (by omega)
    haveI := vote_cells hcc rfl hlt
    haveI := vote_cells hcc' rfl hlt
    refine stpP ?_
    rw [same_self]
    exact zgbQ_l0_again (l.length - (k + 1)) (by omega) ⟨k + 1, by omega, rfl, rfl, rfl, rfl⟩
  · refine stpP ?_
    exact ⟨rfl, rfl⟩
theorem SameCommit_same {h : Heap} {x : Cm} {sv sw : Value} (hl : x.hash.length = 32) (hs : x.votes.length < 1048576) (hv : Rd h 2 sv (tcells x.votes) x.votes.length) (hw : Rd h 2 sw (tcells x.votes) x.votes.length) :
    Runs Tryz.prog T0 (.fn fn_zebQ) [.agg ⟨x.cells sv⟩, .agg ⟨x.cells sw⟩] h (fun r h' => r = .bool true ∧ Fr (fun _ => False) h h') (fun _ _ => False) := by
  haveI := l32 hl
  refine zebQ_runs ?_
  refine stpP ?_
  refine O.dec (fun _ => ?_) (fun hh => absurd rfl hh)
  refine stpP ?_
  rw [same_self]
  refine stpP ?_
  refine O.callT (SameVotes_same (hv.keep (S := fun _ => False) Fr.refl.push.push fun _ _ => id) (hw.keep (S := fun _ => False) Fr.refl.push.push fun _ _ => id) hs) (fun r h1 hr => ?_)
  obtain ⟨rfl, rfl⟩ := hr
  refine stpP ?_
  exact ⟨rfl, Fr.refl.push.push⟩
end Go.Proofs.YtninaabbojcdpaaGreat.A

namespace Go.Proofs.YtninaabbojcdpaaGreat.A
open Go Go.Vm
set_option maxRecDepth 10000
set_option linter.unusedVariables false
theorem appendLitV {P : Program} {T : Table} {ts : List Value} {ds : List Deferred} {h : Heap} {rd : Option Nat} {dst bytes el : Nat} {x y : Operand} {chk : List (Option Nat × AOp × Option (Nat × Bool))} {pan : Bool} {rest : List AOper} {Q : QP} {F : Value → List Value} {w : Value} {l : List Val}
    [e1 : Ev ts x (.slice (some ⟨h.n, 0, none⟩) 0 0)] [e2 : Ev ts y w] [s : LSetF ts dst F] (hv : Rd h 5 w (vcells l) l.length) (hs : l.length < 1048576) (hb : bytes < 1048576)
    (hk : ∀ v' h', Own h' 5 v' (vcells l) l.length → Fr (fun _ => False) h h' → (∀ i, ownedBy v' i → h.n ≤ i) → RunO P T rest ⟨F v', ds, h', rd⟩ Q) :
    RunO P T (⟨some dst, .append el 5 bytes [.int .u8 0, .int .u8 0, .int .u8 0, .int .u8 0, .int .i64 0] false x y, none, chk, pan⟩ :: rest) ⟨ts, ds, h.push (.cells [] 0), rd⟩ Q := by
  have f0 : Fr (fun _ => False) h (h.push (.cells [] 0)) := Fr.refl.push
  have hz : Own (h.push (.cells [] 0)) 5 (.slice (some ⟨h.n, 0, none⟩) 0 0) [] 0 := .lit (by simp) (by rw [Heap.get_push, if_pos rfl])
  refine O.append hz ((hv.keep f0 fun _ _ => id).new _) (vcells_len l) (vcells_one l) (by omega) (by omega) (by omega) (fun v' h' h1 h2 h3 => ?_)
  rw [Nat.zero_add, List.nil_append] at h1
  refine hk v' h' h1 (f0.trans (S := fun _ => False) h2 fun i hi ho => ?_) fun i hi => ?_
  · have : h.n = i := ho
    omega
  · rcases h3 i hi with h4 | h4
    · have : h.n = i := h4
      omega
    · simp at h4; omega
theorem CopyVals_ok {h : Heap} {v : Value} {l : List Val} (hr : Rd h 5 v (vcells l) l.length) (hs : l.length < 1048576) :
    Runs Tryz.prog T0 (.fn fn_zzQ) [v] h
      (fun r h' => Own h' 5 r (vcells l) l.length ∧ Fr (fun _ => False) h h' ∧ ∀ i, ownedBy r i → h.n ≤ i) (fun _ _ => False) := by
  have hr0 := hr
  obtain ⟨a, cap, rfl, hlen, hc⟩ := hr
  refine zzQ_runs ?_
  refine stp ?_
  refine appendLitV hr0 hs (by omega) (fun v' h' h1 h2 h3 => ?_)
  refine stp ?_
  exact ⟨h1, h2, h3⟩
end Go.Proofs.YtninaabbojcdpaaGreat.A
