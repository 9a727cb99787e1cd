/- Contracts of functions, over the machine. -/
import Derived.Test.YtbmpalbdbcjieaaGreatQBlockDecodes3
import Derived.Test.YtbmpalbdbcjieaaGreatVI
import Derived.Test.YtbmpalbdbcjieaaGreatVK
import Derived.Test.YtbmpalbdbcjieaaGreatVJ
noncomputable section
set_option maxRecDepth 100000
set_option linter.unusedVariables false
namespace Go.Proofs.YtbmpalbdbcjieaaGreat.A
open Go Go.Vm
abbrev fn_zwbQ : FuncId := 100
def zwbQ_l0 : ACode :=
 (.seq (.seq (.region [
 o1 12 (.mov (tm 5)),
 o1 13 (.mov (tm 4)),
 o1 14 (.lenSl (tm 13)),
 o1 15 (.bin .lss (so (.binOp .lss 3 (tm 12) (tm 14) 3) 4) (tm 12) (tm 14))]) (.cond (tm 15)
 .skip
 (.exit 0))) (.seq (.block 1 (.region [
 o1 18 (.mov (tm 5)),
 o1 19 (.mov (tm 4)),
 o1 20 (.mov (tm 5)),
 o1 21 (.indexSl 1 (tm 19) (tm 20)),
 o1 22 (.load none (tm 21)),
 o1 23 (.indexArr 4 1 (tm 3) (tm 18)),
 o3 (.store 1 (tm 23) (tm 22))])) (.region [
 o1 16 (.mov (tm 5)),
 o1 17 (.bin .add (so (.binOp .add 3 (tm 16) (.const (.int .i64 1)) 3) 3) (tm 16) (.const (.int .i64 1))),
 o1 5 (.mov (tm 17))])))
def zwbQ_c : ACode :=
 (.seq (.region [
 o1 2 (.alloc 64 [(.int .u8 0), (.int .u8 0), (.int .u8 0), (.int .u8 0)])]) (.seq (.region [
 o1 3 (.alloc 64 [(.int .u8 0), (.int .u8 0), (.int .u8 0), (.int .u8 0)])]) (.seq (.region [
 o1 6 (.mov (tm 0)),
 o1 7 (.mov (tm 0)),
 o1 8 (.nilCheck (tm 7)),
 o1 9 (.fieldAddr 1 (tm 8)),
 o1 10 (.load none (tm 9)),
 o1 11 (.callV (.func 93) [(tm 6), (.const (.int .i64 4)), (tm 10)]),
 o1 4 (.mov (tm 11))]) (.seq (.seq (.region [
 o1 5 (.mov k0)]) (.block 0 (.loop zwbQ_l0))) (.seq (.region [
 o1 24 (.load (some 4) (tm 3)),
 o3 (.store 4 (tm 2) (tm 24))]) .ret)))))
def zwbQ : AFunc := ⟨25, [(2, some (some 4))], zwbQ_c, none⟩
theorem zwbQ_t0 : tableOf Tryz.prog 100 = some zwbQ := by kernel_rfl
theorem zwbQ_t : T0 100 = some zwbQ := withKept_t rfl (withTrue_t rfl zwbQ_t0)
theorem zwbQ_runs {v0 : Value} {h : Heap} {R : RP} {X : XP} (k : RunC Tryz.prog T0 zwbQ_c ⟨[v0, U, U, U, U, U, U, U, U, U, U, U, U, U, U, U, U, U, U, U, U, U, U, U, U], [], h, none⟩ (bodyQ Tryz.prog T0 [(2, some (some 4))] R X)) :
 Runs Tryz.prog T0 (.fn 100) [v0] h R X := Runs.fn zwbQ_t rfl k
def zwbQ_l0_J (f0 f1 f2 f3 f4 f6 f7 f8 f9 f10 f11 f24 : Value) (ds : List Deferred) (rd : Option Nat) (I : Nat → Value → Heap → Prop) (m : Nat) (s : St) : Prop := ∃ (v5 : Value), ∃ h : Heap, ∃ (x12 x13 x14 x15 x16 x17 x18 x19 x20 x21 x22 x23 : Value), s = ⟨[f0, f1, f2, f3, f4, v5, f6, f7, f8, f9, f10, f11, x12, x13, x14, x15, x16, x17, x18, x19, x20, x21, x22, x23, f24], ds, h, rd⟩ ∧ I m v5 h
theorem zwbQ_l0_rule {f0 f1 f2 f3 f4 f6 f7 f8 f9 f10 f11 f24 : Value} {ds : List Deferred} {rd : Option Nat} {Q : QP} (I : Nat → Value → Heap → Prop) (hb : ∀ (m : Nat) (v5 : Value) (h : Heap) (x12 x13 x14 x15 x16 x17 x18 x19 x20 x21 x22 x23 : Value) , I m v5 h → RunC Tryz.prog T0 zwbQ_l0 ⟨[f0, f1, f2, f3, f4, v5, f6, f7, f8, f9, f10, f11, x12, x13, x14, x15, x16, x17, x18, x19, x20, x21, x22, x23, f24], ds, h, rd⟩ (loopQ (zwbQ_l0_J f0 f1 f2 f3 f4 f6 f7 f8 f9 f10 f11 f24 ds rd I) m Q))
 (m : Nat) {v5 : Value} {h : Heap} {x12 x13 x14 x15 x16 x17 x18 x19 x20 x21 x22 x23 : Value} (hi : I m v5 h) : RunC Tryz.prog T0 (.loop zwbQ_l0) ⟨[f0, f1, f2, f3, f4, v5, f6, f7, f8, f9, f10, f11, x12, x13, x14, x15, x16, x17, x18, x19, x20, x21, x22, x23, f24], ds, h, rd⟩ Q :=
 RunC.loopJ (zwbQ_l0_J f0 f1 f2 f3 f4 f6 f7 f8 f9 f10 f11 f24 ds rd I) (fun m s hj => by obtain ⟨v5, h, x12, x13, x14, x15, x16, x17, x18, x19, x20, x21, x22, x23, rfl, hi⟩ := hj; exact hb m v5 h x12 x13 x14 x15 x16 x17 x18 x19 x20 x21 x22 x23 hi) m _ ⟨_, h, _, _, _, _, _, _, _, _, _, _, _, _, rfl, hi⟩
theorem zwbQ_l0_again {f0 f1 f2 f3 f4 f6 f7 f8 f9 f10 f11 f24 : Value} {ds : List Deferred} {rd : Option Nat} {Q : QP} {I : Nat → Value → Heap → Prop} {m : Nat} (m' : Nat) {v5 : Value} {h : Heap} {x12 x13 x14 x15 x16 x17 x18 x19 x20 x21 x22 x23 : Value} (hm : m' < m) (hi : I m' v5 h) : loopQ (zwbQ_l0_J f0 f1 f2 f3 f4 f6 f7 f8 f9 f10 f11 f24 ds rd I) m Q .normal ⟨[f0, f1, f2, f3, f4, v5, f6, f7, f8, f9, f10, f11, x12, x13, x14, x15, x16, x17, x18, x19, x20, x21, x22, x23, f24], ds, h, rd⟩ :=
 loopQ.again m' hm ⟨_, h, _, _, _, _, _, _, _, _, _, _, _, _, rfl, hi⟩
abbrev fn_zccQ : FuncId := 101
def zccQ_l0 : ACode :=
 (.seq (.seq (.region [
 o1 12 (.mov (tm 3)),
 o1 13 (.mov (tm 0)),
 o1 14 (.lenSl (tm 13)),
 o1 15 (.bin .lss (so (.binOp .lss 3 (tm 12) (tm 14) 3) 4) (tm 12) (tm 14))]) (.cond (tm 15)
 .skip
 (.exit 1))) (.seq (.block 2 (.block 3 (.seq (.regionD [
 o2 19 (.mov (tm 3)),
 o2 20 (.bin .gtr (so (.binOp .gtr 3 (tm 19) k0 3) 4) (tm 19) k0),
 o2 21 (.mov (tm 20)),
 o4 22 (.mov (tm 0)) 21,
 o4 23 (.mov (tm 3)) 21,
 o4 24 (.bin .sub (so (.binOp .sub 3 (tm 23) (.const (.int .i64 1)) 3) 3) (tm 23) (.const (.int .i64 1))) 21,
 o4 25 (.indexSl 5 (tm 22) (tm 24)) 21,
 o4 26 (.fieldAddr 0 (tm 25)) 21,
 o4 27 (.load (some 4) (tm 26)) 21,
 o4 28 (.mov (tm 0)) 21,
 o4 29 (.mov (tm 3)) 21,
 o4 30 (.indexSl 5 (tm 28) (tm 29)) 21,
 o4 31 (.fieldAddr 0 (tm 30)) 21,
 o4 32 (.load (some 4) (tm 31)) 21,
 ⟨some 33, .callV (.func 151) [(tm 27), (tm 32)], some (21, true), [], true⟩,
 ⟨some 34, .raw (so (.unOp .not 4 (tm 33)) 4), some (21, true), [], true⟩,
 o2 35 (.pick (tm 21) (tm 34) (.const (.bool false))),
 o2 18 (.mov (tm 35))]) (.cond (tm 18)
 (.seq (.region [
 o1 2 (.mov (.const (.int .i64 9)))]) .ret)
 (.seq (.region [
 o1 37 (.mov (tm 0)),
 o1 38 (.mov (tm 3)),
 o1 39 (.indexSl 5 (tm 37) (tm 38)),
 o1 40 (.fieldAddr 4 (tm 39)),
 o1 41 (.load none (tm 40)),
 o1 42 (.bin .lss (so (.binOp .lss 3 (tm 41) (.const (.int .i64 1)) 3) 4) (tm 41) (.const (.int .i64 1))),
 o1 43 (.mov (tm 42)),
 o5 44 (.mov (tm 0)) 43,
 o5 45 (.mov (tm 3)) 43,
 o5 46 (.indexSl 5 (tm 44) (tm 45)) 43,
 o5 47 (.fieldAddr 4 (tm 46)) 43,
 o5 48 (.load none (tm 47)) 43,
 o5 49 (.bin .gtr (so (.binOp .gtr 3 (tm 48) (.const (.int .i64 4611686018427387904)) 3) 4) (tm 48) (.const (.int .i64 4611686018427387904))) 43,
 o1 50 (.pick (tm 43) (.const (.bool true)) (tm 49)),
 o1 36 (.mov (tm 50))]) (.cond (tm 36)
 (.seq (.region [
 o1 2 (.mov (.const (.int .i64 3)))]) .ret)
 .skip)))))) (.region [
 o1 16 (.mov (tm 3)),
 o1 17 (.bin .add (so (.binOp .add 3 (tm 16) (.const (.int .i64 1)) 3) 3) (tm 16) (.const (.int .i64 1))),
 o1 3 (.mov (tm 17))])))
def zccQ_c : ACode :=
 (.seq (.region [
 o1 2 (.mov k0)]) (.seq (.block 0 (.seq (.region [
 o1 5 (.mov (tm 0)),
 o1 6 (.lenSl (tm 5)),
 o1 7 (.bin .eql (so (.binOp .eql 3 (tm 6) k0 3) 4) (tm 6) k0),
 o1 4 (.mov (tm 7))]) (.cond (tm 4)
 (.seq (.region [
 o1 2 (.mov (.const (.int .i64 6)))]) .ret)
 (.seq (.region [
 o1 9 (.mov (tm 0)),
 o1 10 (.lenSl (tm 9)),
 o1 11 (.bin .gtr (so (.binOp .gtr 3 (tm 10) (.const (.int .i64 64)) 3) 4) (tm 10) (.const (.int .i64 64))),
 o1 8 (.mov (tm 11))]) (.cond (tm 8)
 (.seq (.region [
 o1 2 (.mov (.const (.int .i64 4)))]) .ret)
 .skip))))) (.seq (.seq (.region [
 o1 3 (.mov k0)]) (.block 1 (.loop zccQ_l0))) (.seq (.region [
 o1 2 (.mov k0)]) .ret))))
def zccQ : AFunc := ⟨51, [(2, none)], zccQ_c, none⟩
theorem zccQ_t0 : tableOf Tryz.prog 101 = some zccQ := by kernel_rfl
theorem zccQ_t : T0 101 = some zccQ := withKept_t rfl (withTrue_t rfl zccQ_t0)
theorem zccQ_runs {v0 : Value} {h : Heap} {R : RP} {X : XP} (k : RunC Tryz.prog T0 zccQ_c ⟨[v0, U, U, U, U, U, U, U, U, U, U, U, U, U, U, U, U, U, U, U, U, U, U, U, U, U, U, U, U, U, U, U, U, U, U, U, U, U, U, U, U, U, U, U, U, U, U, U, U, U, U], [], h, none⟩ (bodyQ Tryz.prog T0 [(2, none)] R X)) :
 Runs Tryz.prog T0 (.fn 101) [v0] h R X := Runs.fn zccQ_t rfl k
def zccQ_l0_J (f0 f1 f4 f5 f6 f7 f8 f9 f10 f11 : Value) (ds : List Deferred) (rd : Option Nat) (I : Nat → Value → Heap → Prop) (m : Nat) (s : St) : Prop := ∃ (v3 : Value), ∃ h : Heap, ∃ (x2 x12 x13 x14 x15 x16 x17 x18 x19 x20 x21 x22 x23 x24 x25 x26 x27 x28 x29 x30 x31 x32 x33 x34 x35 x36 x37 x38 x39 x40 x41 x42 x43 x44 x45 x46 x47 x48 x49 x50 : Value), s = ⟨[f0, f1, x2, v3, f4, f5, f6, f7, f8, f9, f10, f11, x12, x13, x14, x15, x16, x17, x18, x19, x20, x21, x22, x23, x24, x25, x26, x27, x28, x29, x30, x31, x32, x33, x34, x35, x36, x37, x38, x39, x40, x41, x42, x43, x44, x45, x46, x47, x48, x49, x50], ds, h, rd⟩ ∧ I m v3 h
theorem zccQ_l0_rule {f0 f1 f4 f5 f6 f7 f8 f9 f10 f11 : Value} {ds : List Deferred} {rd : Option Nat} {Q : QP} (I : Nat → Value → Heap → Prop) (hb : ∀ (m : Nat) (v3 : Value) (h : Heap) (x2 x12 x13 x14 x15 x16 x17 x18 x19 x20 x21 x22 x23 x24 x25 x26 x27 x28 x29 x30 x31 x32 x33 x34 x35 x36 x37 x38 x39 x40 x41 x42 x43 x44 x45 x46 x47 x48 x49 x50 : Value) , I m v3 h → RunC Tryz.prog T0 zccQ_l0 ⟨[f0, f1, x2, v3, f4, f5, f6, f7, f8, f9, f10, f11, x12, x13, x14, x15, x16, x17, x18, x19, x20, x21, x22, x23, x24, x25, x26, x27, x28, x29, x30, x31, x32, x33, x34, x35, x36, x37, x38, x39, x40, x41, x42, x43, x44, x45, x46, x47, x48, x49, x50], ds, h, rd⟩ (loopQ (zccQ_l0_J f0 f1 f4 f5 f6 f7 f8 f9 f10 f11 ds rd I) m Q))
 (m : Nat) {v3 : Value} {h : Heap} {x2 x12 x13 x14 x15 x16 x17 x18 x19 x20 x21 x22 x23 x24 x25 x26 x27 x28 x29 x30 x31 x32 x33 x34 x35 x36 x37 x38 x39 x40 x41 x42 x43 x44 x45 x46 x47 x48 x49 x50 : Value} (hi : I m v3 h) : RunC Tryz.prog T0 (.loop zccQ_l0) ⟨[f0, f1, x2, v3, f4, f5, f6, f7, f8, f9, f10, f11, x12, x13, x14, x15, x16, x17, x18, x19, x20, x21, x22, x23, x24, x25, x26, x27, x28, x29, x30, x31, x32, x33, x34, x35, x36, x37, x38, x39, x40, x41, x42, x43, x44, x45, x46, x47, x48, x49, x50], ds, h, rd⟩ Q :=
 RunC.loopJ (zccQ_l0_J f0 f1 f4 f5 f6 f7 f8 f9 f10 f11 ds rd I) (fun m s hj => by obtain ⟨v3, h, x2, x12, x13, x14, x15, x16, x17, x18, x19, x20, x21, x22, x23, x24, x25, x26, x27, x28, x29, x30, x31, x32, x33, x34, x35, x36, x37, x38, x39, x40, x41, x42, x43, x44, x45, x46, x47, x48, x49, x50, rfl, hi⟩ := hj; exact hb m v3 h x2 x12 x13 x14 x15 x16 x17 x18 x19 x20 x21 x22 x23 x24 x25 x26 x27 x28 x29 x30 x31 x32 x33 x34 x35 x36 x37 x38 x39 x40 x41 x42 x43 x44 x45 x46 x47 x48 x49 x50 hi) m _ ⟨_, h, _, _, _, _, _, _, _, _, _, _, _, _, _, _, _, _, _, _, _, _, _, _, _, _, _, _, _, _, _, _, _, _, _, _, _, _, _, _, _, _, rfl, hi⟩
theorem zccQ_l0_again {f0 f1 f4 f5 f6 f7 f8 f9 f10 f11 : Value} {ds : List Deferred} {rd : Option Nat} {Q : QP} {I : Nat → Value → Heap → Prop} {m : Nat} (m' : Nat) {v3 : Value} {h : Heap} {x2 x12 x13 x14 x15 x16 x17 x18 x19 x20 x21 x22 x23 x24 x25 x26 x27 x28 x29 x30 x31 x32 x33 x34 x35 x36 x37 x38 x39 x40 x41 x42 x43 x44 x45 x46 x47 x48 x49 x50 : Value} (hm : m' < m) (hi : I m' v3 h) : loopQ (zccQ_l0_J f0 f1 f4 f5 f6 f7 f8 f9 f10 f11 ds rd I) m Q .normal ⟨[f0, f1, x2, v3, f4, f5, f6, f7, f8, f9, f10, f11, x12, x13, x14, x15, x16, x17, x18, x19, x20, x21, x22, x23, x24, x25, x26, x27, x28, x29, x30, x31, x32, x33, x34, x35, x36, x37, x38, x39, x40, x41, x42, x43, x44, x45, x46, x47, x48, x49, x50], ds, h, rd⟩ :=
 loopQ.again m' hm ⟨_, h, _, _, _, _, _, _, _, _, _, _, _, _, _, _, _, _, _, _, _, _, _, _, _, _, _, _, _, _, _, _, _, _, _, _, _, _, _, _, _, _, rfl, hi⟩
abbrev fn_ztcQ : FuncId := 116
def ztcQ_c : ACode :=
 (.seq (.region [
 o1 3 (.box 66 (tm 1)),
 o1 4 (.mov k0)]) (.seq (.regionD [
 o2 6 (.mov (tm 0)),
 o2 7 (.nilCheck (tm 6)),
 o2 8 (.fieldAddr 4 (tm 7)),
 o2 9 (.load none (tm 8)),
 o2 10 (.mov (tm 9)),
 o4 11 (.mov (tm 0)) 10,
 o4 12 (.nilCheck (tm 11)) 10,
 o4 13 (.fieldAddr 0 (tm 12)) 10,
 o4 14 (.sliceArr 4 1 (tm 13) none none) 10,
 o4 15 (.fieldAddr 0 (tm 3)) 10,
 o4 16 (.sliceArr 4 1 (tm 15) none none) 10,
 ⟨some 17, .callV (.func 154) [(tm 14), (tm 16)], some (10, true), [], true⟩,
 ⟨some 18, .bin .geq (so (.binOp .geq 3 (tm 17) k0 3) 4) (tm 17) k0, some (10, true), [], true⟩,
 o2 19 (.pick (tm 10) (tm 18) (.const (.bool false))),
 o2 5 (.mov (tm 19))]) (.seq (.region [
 o1 20 (.mov (tm 0)),
 o1 21 (.mov (tm 0)),
 o1 22 (.fieldAddr 0 (tm 3)),
 o1 23 (.load (some 4) (tm 22)),
 o1 24 (.nilCheck (tm 20)),
 o1 25 (.fieldAddr 0 (tm 24)),
 o3 (.store 4 (tm 25) (tm 23)),
 o1 26 (.nilCheck (tm 21)),
 o1 27 (.fieldAddr 4 (tm 26)),
 o3 (.store 1 (tm 27) (.const (.bool true)))]) (.seq (.block 0 (.seq (.region [
 o1 29 (.mov (tm 5)),
 o1 28 (.mov (tm 29))]) (.cond (tm 28)
 (.seq (.region [
 o1 4 (.mov (.const (.int .i64 9)))]) .ret)
 (.seq (.regionD [
 o1 31 (.fieldAddr 4 (tm 3)),
 o1 32 (.load none (tm 31)),
 o1 33 (.mov (tm 0)),
 o1 34 (.nilCheck (tm 33)),
 o1 35 (.fieldAddr 5 (tm 34)),
 o1 36 (.load none (tm 35)),
 o2 37 (.bin .lss (so (.binOp .lss 3 (tm 32) (tm 36) 3) 4) (tm 32) (tm 36)),
 o2 38 (.mov (tm 37)),
 o5 39 (.fieldAddr 4 (tm 3)) 38,
 o5 40 (.load none (tm 39)) 38,
 o5 41 (.mov (tm 0)) 38,
 o5 42 (.nilCheck (tm 41)) 38,
 o5 43 (.fieldAddr 6 (tm 42)) 38,
 o5 44 (.load none (tm 43)) 38,
 ⟨some 45, .bin .gtr (so (.binOp .gtr 3 (tm 40) (tm 44) 3) 4) (tm 40) (tm 44), some (38, false), [], true⟩,
 o2 46 (.pick (tm 38) (.const (.bool true)) (tm 45)),
 o2 30 (.mov (tm 46))]) (.cond (tm 30)
 (.seq (.region [
 o1 4 (.mov (.const (.int .i64 3)))]) .ret)
 .skip))))) (.seq (.region [
 o1 4 (.mov k0)]) .ret)))))
def ztcQ : AFunc := ⟨47, [(4, none)], ztcQ_c, none⟩
theorem ztcQ_t0 : tableOf Tryz.prog 116 = some ztcQ := by kernel_rfl
theorem ztcQ_t : T0 116 = some ztcQ := withKept_t rfl (withTrue_t rfl ztcQ_t0)
theorem ztcQ_runs {v0 v1 : Value} {h : Heap} {R : RP} {X : XP} (k : RunC Tryz.prog T0 ztcQ_c ⟨[v0, v1, U, U, U, U, U, U, U, U, U, U, U, U, U, U, U, U, U, U, U, U, U, U, U, U, U, U, U, U, U, U, U, U, U, U, U, U, U, U, U, U, U, U, U, U, U], [], h, none⟩ (bodyQ Tryz.prog T0 [(4, none)] R X)) :
 Runs Tryz.prog T0 (.fn 116) [v0, v1] h R X := Runs.fn ztcQ_t rfl k
abbrev fn_zodQ : FuncId := 129
def zodQ_c : ACode :=
 (.seq (.region [
 o1 4 (.mov (.const (.slice none 0 0)))]) (.seq (.seq (.region [
 o1 5 (.mov (tm 0)),
 o1 6 (.eq .ptr false (so (.binOp .eql 70 (tm 5) (.const (.pointer none)) 70) 4) (tm 5) (.const (.pointer none))),
 o1 7 (.mov (tm 6)),
 o5 8 (.mov (tm 0)) 7,
 o5 9 (.nilCheck (tm 8)) 7,
 o5 10 (.fieldAddr 4 (tm 9)) 7,
 o5 11 (.load none (tm 10)) 7,
 o5 12 (.raw (so (.unOp .not 4 (tm 11)) 4)) 7,
 o1 13 (.pick (tm 7) (.const (.bool true)) (tm 12)),
 o1 14 (.mov (tm 13)),
 o5 15 (.mov (tm 0)) 14,
 o5 16 (.nilCheck (tm 15)) 14,
 o5 17 (.fieldAddr 2 (tm 16)) 14,
 o5 18 (.fieldAddr 0 (tm 17)) 14,
 o5 19 (.load none (tm 18)) 14,
 o5 20 (.bin .neq (so (.binOp .neq 34 (tm 19) k0 34) 4) (tm 19) k0) 14,
 o1 21 (.pick (tm 14) (.const (.bool true)) (tm 20))]) (.cond (tm 21)
 (.seq (.region [
 o1 22 (.mov (tm 4)),
 o1 4 (.mov (tm 22))]) .ret)
 .skip)) (.seq (.region [
 o1 23 (.mov (tm 0)),
 o3 (.defer (.func 165) [(tm 23)])]) (.seq (.region [
 o1 24 (.mov (tm 1)),
 o1 25 (.mov (tm 0)),
 o1 26 (.nilCheck (tm 25)),
 o1 27 (.fieldAddr 1 (tm 26)),
 o1 28 (.load none (tm 27)),
 o1 29 (.callV (tm 24) [(tm 28)]),
 o1 4 (.mov (tm 29))]) .ret))))
def zodQ : AFunc := ⟨30, [(4, none)], zodQ_c, none⟩
theorem zodQ_t0 : tableOf Tryz.prog 129 = some zodQ := by kernel_rfl
theorem zodQ_t : T0 129 = some zodQ := withKept_t rfl (withTrue_t rfl zodQ_t0)
theorem zodQ_runs {v0 v1 : Value} {h : Heap} {R : RP} {X : XP} (k : RunC Tryz.prog T0 zodQ_c ⟨[v0, v1, U, U, U, U, U, U, U, U, U, U, U, U, U, U, U, U, U, U, U, U, U, U, U, U, U, U, U, U], [], h, none⟩ (bodyQ Tryz.prog T0 [(4, none)] R X)) :
 Runs Tryz.prog T0 (.fn 129) [v0, v1] h R X := Runs.fn zodQ_t rfl k
abbrev fn_zwcQ : FuncId := 130
def zwcQ_c : ACode :=
 (.seq (.region [
 o1 4 (.mov (.const (.slice none 0 0)))]) (.seq (.region [
 o1 6 (.load none (tm 1)),
 o1 7 (.mov (tm 0)),
 o1 8 (.callV (.func 131) [(tm 6), (tm 7)]),
 o1 5 (.mov (tm 8))]) (.seq (.region [
 o1 9 (.mov (tm 5)),
 o1 10 (.load none (tm 2)),
 o1 11 (.raw (so (.call ⟨.builtin .max, #[(tm 10), k0], #[3, 3]⟩) 3)),
 o1 12 (.bin .leq (so (.binOp .leq 3 (tm 9) (tm 11) 3) 4) (tm 9) (tm 11)),
 o1 13 (.mov (tm 0)),
 o1 14 (.callV (.func 132) [(tm 12), (.const (.int .i64 4)), (tm 13)])]) (.seq (.region [
 o1 15 (.load none (tm 1)),
 o1 16 (.mov (tm 5)),
 o1 17 (.mov (tm 0)),
 o1 18 (.callV (.func 133) [(tm 15), (tm 16), (tm 17), (.func 80)]),
 o1 4 (.mov (tm 18))]) .ret))))
def zwcQ : AFunc := ⟨19, [(4, none)], zwcQ_c, none⟩
theorem zwcQ_t0 : tableOf Tryz.prog 130 = some zwcQ := by kernel_rfl
theorem zwcQ_t : T0 130 = some zwcQ := withKept_t rfl (withTrue_t rfl zwcQ_t0)
theorem zwcQ_runs {v0 v1 v2 : Value} {h : Heap} {R : RP} {X : XP} (k : RunC Tryz.prog T0 zwcQ_c ⟨[v0, v1, v2, U, U, U, U, U, U, U, U, U, U, U, U, U, U, U, U], [], h, none⟩ (bodyQ Tryz.prog T0 [(4, none)] R X)) :
 Runs Tryz.prog T0 (.fn 130) [v0, v1, v2] h R X := Runs.fn zwcQ_t rfl k
abbrev fn_zkdQ : FuncId := 131
def zkdQ_c : ACode :=
 (.seq (.region [
 o1 4 (.mov k0)]) (.seq (.region [
 o1 8 (.mov (tm 0)),
 o1 9 (.mov (tm 1)),
 o1 10 (.callV (.func 142) [(tm 8), (.const (.int .i64 1)), (tm 9), (.func 143)]),
 o1 11 (.conv .i64 (so (.convert 107 3 (tm 10)) 3) (tm 10)),
 o1 5 (.alloc 3 [(.int .i64 0)]),
 o3 (.store 1 (tm 5) (tm 11))]) (.seq (.region [
 o1 12 (.load none (tm 5)),
 o1 13 (.bin .leq (so (.binOp .leq 3 (tm 12) (.const (.int .i64 8)) 3) 4) (tm 12) (.const (.int .i64 8))),
 o1 14 (.mov (tm 1)),
 o1 15 (.callV (.func 132) [(tm 13), (.const (.int .i64 5)), (tm 14)])]) (.seq (.region [
 o1 6 (.alloc 5 [(.int .u8 0)]),
 o3 (.store 1 (tm 6) (.const (.int .u8 1)))]) (.seq (.region [
 o1 16 (.mov (tm 0)),
 o1 17 (.load none (tm 5)),
 o1 18 (.mov (tm 1)),
 o1 19 (.mkFunc (.func 166) [] [(tm 5), (tm 6)]),
 o1 20 (.callV (.func 142) [(tm 16), (tm 17), (tm 18), (tm 19)]),
 o1 7 (.mov (tm 20))]) (.seq (.region [
 o1 21 (.load none (tm 6)),
 o1 22 (.bin .neq (so (.binOp .neq 5 (tm 21) (.const (.int .u8 0)) 5) 4) (tm 21) (.const (.int .u8 0))),
 o1 23 (.mov (tm 22)),
 o4 24 (.mov (tm 7)) 23,
 o4 25 (.bin .leq (so (.binOp .leq 107 (tm 24) (.const (.int .u64 9223372036854775807)) 107) 4) (tm 24) (.const (.int .u64 9223372036854775807))) 23,
 o1 26 (.pick (tm 23) (tm 25) (.const (.bool false))),
 o1 27 (.mov (tm 1)),
 o1 28 (.callV (.func 132) [(tm 26), (.const (.int .i64 5)), (tm 27)])]) (.seq (.region [
 o1 29 (.mov (tm 7)),
 o1 30 (.conv .i64 (so (.convert 107 3 (tm 29)) 3) (tm 29)),
 o1 4 (.mov (tm 30))]) .ret)))))))
def zkdQ : AFunc := ⟨31, [(4, none)], zkdQ_c, none⟩
theorem zkdQ_t0 : tableOf Tryz.prog 131 = some zkdQ := by kernel_rfl
theorem zkdQ_t : T0 131 = some zkdQ := withKept_t rfl (withTrue_t rfl zkdQ_t0)
theorem zkdQ_runs {v0 v1 : Value} {h : Heap} {R : RP} {X : XP} (k : RunC Tryz.prog T0 zkdQ_c ⟨[v0, v1, U, U, U, U, U, U, U, U, U, U, U, U, U, U, U, U, U, U, U, U, U, U, U, U, U, U, U, U, U], [], h, none⟩ (bodyQ Tryz.prog T0 [(4, none)] R X)) :
 Runs Tryz.prog T0 (.fn 131) [v0, v1] h R X := Runs.fn zkdQ_t rfl k
abbrev fn_zndQ : FuncId := 132
def zndQ_c : ACode :=
 (.seq (.region [
 o1 6 (.mov (tm 0)),
 o1 7 (.raw (so (.unOp .not 4 (tm 6)) 4))]) (.cond (tm 7)
 (.region [
 o1 8 (.mov (tm 1)),
 o1 9 (.mov (tm 2)),
 o1 10 (.build [(.int .i64 0), (.int .i64 0)] [(0, 1, (tm 8)), (1, 1, (tm 9))]),
 o1 11 (.build [(.int .i64 0), (.int .i64 0)] [(0, 2, (tm 10))]),
 o1 12 (.mkIface 203 (tm 11)),
 o3 (.panic (tm 12))])
 .skip))
def zndQ : AFunc := ⟨13, [], zndQ_c, none⟩
theorem zndQ_t0 : tableOf Tryz.prog 132 = some zndQ := by kernel_rfl
theorem zndQ_t : T0 132 = some zndQ := withKept_t rfl (withTrue_t rfl zndQ_t0)
theorem zndQ_runs {v0 v1 v2 : Value} {h : Heap} {R : RP} {X : XP} (k : RunC Tryz.prog T0 zndQ_c ⟨[v0, v1, v2, U, U, U, U, U, U, U, U, U, U], [], h, none⟩ (bodyQ Tryz.prog T0 [] R X)) :
 Runs Tryz.prog T0 (.fn 132) [v0, v1, v2] h R X := Runs.fn zndQ_t rfl k
abbrev fn_ztdQ : FuncId := 133
def ztdQ_c : ACode :=
 (.seq (.region [
 o1 8 (.mov (.const (.slice none 0 0)))]) (.seq (.regionD [
 o1 9 (.mov (tm 1)),
 o1 10 (.mov (tm 0)),
 o1 11 (.nilCheck (tm 10)),
 o1 12 (.fieldAddr 0 (tm 11)),
 o1 13 (.load none (tm 12)),
 o1 14 (.lenSl (tm 13)),
 o1 15 (.mov (tm 0)),
 o1 16 (.nilCheck (tm 15)),
 o1 17 (.fieldAddr 1 (tm 16)),
 o1 18 (.load none (tm 17)),
 o1 19 (.bin .sub (so (.binOp .sub 3 (tm 14) (tm 18) 3) 3) (tm 14) (tm 18)),
 o1 20 (.bin .leq (so (.binOp .leq 3 (tm 9) (tm 19) 3) 4) (tm 9) (tm 19)),
 o1 21 (.mov (tm 2)),
 o2 22 (.callV (.func 132) [(tm 20), (.const (.int .i64 6)), (tm 21)])]) (.seq (.region [
 o1 23 (.mov (tm 0)),
 o1 24 (.nilCheck (tm 23)),
 o1 25 (.fieldAddr 1 (tm 24)),
 o1 26 (.load none (tm 25)),
 o1 27 (.mov (tm 1)),
 o1 28 (.bin .add (so (.binOp .add 3 (tm 26) (tm 27) 3) 3) (tm 26) (tm 27)),
 o1 29 (.nilCheck (tm 23)),
 o1 30 (.fieldAddr 1 (tm 29)),
 o3 (.store 1 (tm 30) (tm 28))]) (.seq (.regionD [
 o1 31 (.mov (tm 3)),
 o1 32 (.mov (tm 0)),
 o1 33 (.nilCheck (tm 32)),
 o1 34 (.fieldAddr 0 (tm 33)),
 o1 35 (.load none (tm 34)),
 o1 36 (.mov (tm 0)),
 o1 37 (.nilCheck (tm 36)),
 o1 38 (.fieldAddr 1 (tm 37)),
 o1 39 (.load none (tm 38)),
 o1 40 (.mov (tm 1)),
 o1 41 (.bin .sub (so (.binOp .sub 3 (tm 39) (tm 40) 3) 3) (tm 39) (tm 40)),
 o1 42 (.mov (tm 0)),
 o1 43 (.nilCheck (tm 42)),
 o1 44 (.fieldAddr 1 (tm 43)),
 o1 45 (.load none (tm 44)),
 o1 46 (.sliceSl 1 (tm 35) (some (tm 41)) (some (tm 45)) none),
 o2 47 (.callV (tm 31) [(tm 46)]),
 o2 8 (.mov (tm 47))]) .ret))))
def ztdQ : AFunc := ⟨48, [(8, none)], ztdQ_c, none⟩
theorem ztdQ_t0 : tableOf Tryz.prog 133 = some ztdQ := by kernel_rfl
theorem ztdQ_t : T0 133 = some ztdQ := withKept_t rfl (withTrue_t rfl ztdQ_t0)
theorem ztdQ_runs {v0 v1 v2 v3 : Value} {h : Heap} {R : RP} {X : XP} (k : RunC Tryz.prog T0 ztdQ_c ⟨[v0, v1, v2, v3, U, U, U, U, U, U, U, U, U, U, U, U, U, U, U, U, U, U, U, U, U, U, U, U, U, U, U, U, U, U, U, U, U, U, U, U, U, U, U, U, U, U, U, U], [], h, none⟩ (bodyQ Tryz.prog T0 [(8, none)] R X)) :
 Runs Tryz.prog T0 (.fn 133) [v0, v1, v2, v3] h R X := Runs.fn ztdQ_t rfl k
abbrev fn_zrdQ : FuncId := 134
def zrdQ_c : ACode :=
 (.seq (.region [
 o1 4 (.mov k0)]) (.seq (.seq (.region [
 o1 5 (.mov (tm 0)),
 o1 6 (.eq .ptr false (so (.binOp .eql 70 (tm 5) (.const (.pointer none)) 70) 4) (tm 5) (.const (.pointer none))),
 o1 7 (.mov (tm 6)),
 o5 8 (.mov (tm 0)) 7,
 o5 9 (.nilCheck (tm 8)) 7,
 o5 10 (.fieldAddr 4 (tm 9)) 7,
 o5 11 (.load none (tm 10)) 7,
 o5 12 (.raw (so (.unOp .not 4 (tm 11)) 4)) 7,
 o1 13 (.pick (tm 7) (.const (.bool true)) (tm 12)),
 o1 14 (.mov (tm 13)),
 o5 15 (.mov (tm 0)) 14,
 o5 16 (.nilCheck (tm 15)) 14,
 o5 17 (.fieldAddr 2 (tm 16)) 14,
 o5 18 (.fieldAddr 0 (tm 17)) 14,
 o5 19 (.load none (tm 18)) 14,
 o5 20 (.bin .neq (so (.binOp .neq 34 (tm 19) k0 34) 4) (tm 19) k0) 14,
 o1 21 (.pick (tm 14) (.const (.bool true)) (tm 20))]) (.cond (tm 21)
 (.seq (.region [
 o1 22 (.mov (tm 4)),
 o1 4 (.mov (tm 22))]) .ret)
 .skip)) (.seq (.region [
 o1 23 (.mov (tm 0)),
 o3 (.defer (.func 165) [(tm 23)])]) (.seq (.region [
 o1 24 (.mov (tm 1)),
 o1 25 (.mov (tm 0)),
 o1 26 (.nilCheck (tm 25)),
 o1 27 (.fieldAddr 1 (tm 26)),
 o1 28 (.load none (tm 27)),
 o1 29 (.callV (tm 24) [(tm 28)]),
 o1 4 (.mov (tm 29))]) .ret))))
def zrdQ : AFunc := ⟨30, [(4, none)], zrdQ_c, none⟩
theorem zrdQ_t0 : tableOf Tryz.prog 134 = some zrdQ := by kernel_rfl
theorem zrdQ_t : T0 134 = some zrdQ := withKept_t rfl (withTrue_t rfl zrdQ_t0)
theorem zrdQ_runs {v0 v1 : Value} {h : Heap} {R : RP} {X : XP} (k : RunC Tryz.prog T0 zrdQ_c ⟨[v0, v1, U, U, U, U, U, U, U, U, U, U, U, U, U, U, U, U, U, U, U, U, U, U, U, U, U, U, U, U], [], h, none⟩ (bodyQ Tryz.prog T0 [(4, none)] R X)) :
 Runs Tryz.prog T0 (.fn 134) [v0, v1] h R X := Runs.fn zrdQ_t rfl k
abbrev fn_zpdQ : FuncId := 135
def zpdQ_c : ACode :=
 (.seq (.region [
 o1 4 (.alloc 23 z32)]) (.seq (.seq (.region [
 o1 5 (.mov (tm 0)),
 o1 6 (.eq .ptr false (so (.binOp .eql 70 (tm 5) (.const (.pointer none)) 70) 4) (tm 5) (.const (.pointer none))),
 o1 7 (.mov (tm 6)),
 o5 8 (.mov (tm 0)) 7,
 o5 9 (.nilCheck (tm 8)) 7,
 o5 10 (.fieldAddr 4 (tm 9)) 7,
 o5 11 (.load none (tm 10)) 7,
 o5 12 (.raw (so (.unOp .not 4 (tm 11)) 4)) 7,
 o1 13 (.pick (tm 7) (.const (.bool true)) (tm 12)),
 o1 14 (.mov (tm 13)),
 o5 15 (.mov (tm 0)) 14,
 o5 16 (.nilCheck (tm 15)) 14,
 o5 17 (.fieldAddr 2 (tm 16)) 14,
 o5 18 (.fieldAddr 0 (tm 17)) 14,
 o5 19 (.load none (tm 18)) 14,
 o5 20 (.bin .neq (so (.binOp .neq 34 (tm 19) k0 34) 4) (tm 19) k0) 14,
 o1 21 (.pick (tm 14) (.const (.bool true)) (tm 20))]) (.cond (tm 21)
 (.seq (.region [
 o1 22 (.load (some 32) (tm 4)),
 o3 (.store 32 (tm 4) (tm 22))]) .ret)
 .skip)) (.seq (.region [
 o1 23 (.mov (tm 0)),
 o3 (.defer (.func 165) [(tm 23)])]) (.seq (.region [
 o1 24 (.mov (tm 1)),
 o1 25 (.mov (tm 0)),
 o1 26 (.nilCheck (tm 25)),
 o1 27 (.fieldAddr 1 (tm 26)),
 o1 28 (.load none (tm 27)),
 o1 29 (.callV (tm 24) [(tm 28)]),
 o3 (.store 32 (tm 4) (tm 29))]) .ret))))
def zpdQ : AFunc := ⟨30, [(4, some (some 32))], zpdQ_c, none⟩
theorem zpdQ_t0 : tableOf Tryz.prog 135 = some zpdQ := by kernel_rfl
theorem zpdQ_t : T0 135 = some zpdQ := withKept_t rfl (withTrue_t rfl zpdQ_t0)
theorem zpdQ_runs {v0 v1 : Value} {h : Heap} {R : RP} {X : XP} (k : RunC Tryz.prog T0 zpdQ_c ⟨[v0, v1, U, U, U, U, U, U, U, U, U, U, U, U, U, U, U, U, U, U, U, U, U, U, U, U, U, U, U, U], [], h, none⟩ (bodyQ Tryz.prog T0 [(4, some (some 32))] R X)) :
 Runs Tryz.prog T0 (.fn 135) [v0, v1] h R X := Runs.fn zpdQ_t rfl k
abbrev fn_zzcQ : FuncId := 136
def zzcQ_c : ACode :=
 (.seq (.region [
 o1 3 (.alloc 23 z32)]) (.seq (.region [
 o1 4 (.load none (tm 1)),
 o1 5 (.mov (tm 0)),
 o1 6 (.callV (.func 137) [(tm 4), (.const (.int .i64 32)), (tm 5), (.func 138)]),
 o3 (.store 32 (tm 3) (tm 6))]) .ret))
def zzcQ : AFunc := ⟨7, [(3, some (some 32))], zzcQ_c, none⟩
theorem zzcQ_t0 : tableOf Tryz.prog 136 = some zzcQ := by kernel_rfl
theorem zzcQ_t : T0 136 = some zzcQ := withKept_t rfl (withTrue_t rfl zzcQ_t0)
theorem zzcQ_runs {v0 v1 : Value} {h : Heap} {R : RP} {X : XP} (k : RunC Tryz.prog T0 zzcQ_c ⟨[v0, v1, U, U, U, U, U], [], h, none⟩ (bodyQ Tryz.prog T0 [(3, some (some 32))] R X)) :
 Runs Tryz.prog T0 (.fn 136) [v0, v1] h R X := Runs.fn zzcQ_t rfl k
abbrev fn_zudQ : FuncId := 137
def zudQ_c : ACode :=
 (.seq (.region [
 o1 8 (.alloc 23 z32)]) (.seq (.regionD [
 o1 9 (.mov (tm 1)),
 o1 10 (.mov (tm 0)),
 o1 11 (.nilCheck (tm 10)),
 o1 12 (.fieldAddr 0 (tm 11)),
 o1 13 (.load none (tm 12)),
 o1 14 (.lenSl (tm 13)),
 o1 15 (.mov (tm 0)),
 o1 16 (.nilCheck (tm 15)),
 o1 17 (.fieldAddr 1 (tm 16)),
 o1 18 (.load none (tm 17)),
 o1 19 (.bin .sub (so (.binOp .sub 3 (tm 14) (tm 18) 3) 3) (tm 14) (tm 18)),
 o1 20 (.bin .leq (so (.binOp .leq 3 (tm 9) (tm 19) 3) 4) (tm 9) (tm 19)),
 o1 21 (.mov (tm 2)),
 o2 22 (.callV (.func 132) [(tm 20), (.const (.int .i64 6)), (tm 21)])]) (.seq (.region [
 o1 23 (.mov (tm 0)),
 o1 24 (.nilCheck (tm 23)),
 o1 25 (.fieldAddr 1 (tm 24)),
 o1 26 (.load none (tm 25)),
 o1 27 (.mov (tm 1)),
 o1 28 (.bin .add (so (.binOp .add 3 (tm 26) (tm 27) 3) 3) (tm 26) (tm 27)),
 o1 29 (.nilCheck (tm 23)),
 o1 30 (.fieldAddr 1 (tm 29)),
 o3 (.store 1 (tm 30) (tm 28))]) (.seq (.regionD [
 o1 31 (.mov (tm 3)),
 o1 32 (.mov (tm 0)),
 o1 33 (.nilCheck (tm 32)),
 o1 34 (.fieldAddr 0 (tm 33)),
 o1 35 (.load none (tm 34)),
 o1 36 (.mov (tm 0)),
 o1 37 (.nilCheck (tm 36)),
 o1 38 (.fieldAddr 1 (tm 37)),
 o1 39 (.load none (tm 38)),
 o1 40 (.mov (tm 1)),
 o1 41 (.bin .sub (so (.binOp .sub 3 (tm 39) (tm 40) 3) 3) (tm 39) (tm 40)),
 o1 42 (.mov (tm 0)),
 o1 43 (.nilCheck (tm 42)),
 o1 44 (.fieldAddr 1 (tm 43)),
 o1 45 (.load none (tm 44)),
 o1 46 (.sliceSl 1 (tm 35) (some (tm 41)) (some (tm 45)) none),
 o2 47 (.callV (tm 31) [(tm 46)]),
 ⟨none, .store 32 (tm 8) (tm 47), none, [], true⟩]) .ret))))
def zudQ : AFunc := ⟨48, [(8, some (some 32))], zudQ_c, none⟩
theorem zudQ_t0 : tableOf Tryz.prog 137 = some zudQ := by kernel_rfl
theorem zudQ_t : T0 137 = some zudQ := withKept_t rfl (withTrue_t rfl zudQ_t0)
theorem zudQ_runs {v0 v1 v2 v3 : Value} {h : Heap} {R : RP} {X : XP} (k : RunC Tryz.prog T0 zudQ_c ⟨[v0, v1, v2, v3, U, U, U, U, U, U, U, U, U, U, U, U, U, U, U, U, U, U, U, U, U, U, U, U, U, U, U, U, U, U, U, U, U, U, U, U, U, U, U, U, U, U, U, U], [], h, none⟩ (bodyQ Tryz.prog T0 [(8, some (some 32))] R X)) :
 Runs Tryz.prog T0 (.fn 137) [v0, v1, v2, v3] h R X := Runs.fn zudQ_t rfl k
abbrev fn_zadQ : FuncId := 138
def zadQ_c : ACode :=
 (.seq (.region [
 o1 2 (.alloc 23 z32)]) (.seq (.region [
 o1 3 (.mov (tm 0)),
 o1 4 (.arrayAt 32 (tm 3)),
 o1 5 (.load (some 32) (tm 4)),
 o3 (.store 32 (tm 2) (tm 5))]) .ret))
def zadQ : AFunc := ⟨6, [(2, some (some 32))], zadQ_c, none⟩
theorem zadQ_t0 : tableOf Tryz.prog 138 = some zadQ := by kernel_rfl
theorem zadQ_t : T0 138 = some zadQ := withKept_t rfl (withTrue_t rfl zadQ_t0)
theorem zadQ_runs {v0 : Value} {h : Heap} {R : RP} {X : XP} (k : RunC Tryz.prog T0 zadQ_c ⟨[v0, U, U, U, U, U], [], h, none⟩ (bodyQ Tryz.prog T0 [(2, some (some 32))] R X)) :
 Runs Tryz.prog T0 (.fn 138) [v0] h R X := Runs.fn zadQ_t rfl k
abbrev fn_zabQ : FuncId := 139
def zabQ_c : ACode :=
 (.seq (.region [
 o1 0 (.mov (.const (.slice none 0 0)))]) (.seq (.region [
 o1 1 (.build [.nilFunc, (.int .i64 0)] [(0, 1, (.func 167)), (1, 1, (.const (.int .i64 5)))]),
 o1 2 (.build [.nilFunc, (.int .i64 0)] [(0, 1, (.func 169)), (1, 1, (.const (.int .i64 3)))]),
 o1 3 (.build [.nilFunc, (.int .i64 0)] [(0, 1, (.func 170)), (1, 1, (.const (.int .i64 3)))]),
 o1 4 (.buildSlice 168 [.nilFunc, (.int .i64 0), .nilFunc, (.int .i64 0), .nilFunc, (.int .i64 0)] 3 [(0, 2, (tm 1)), (2, 2, (tm 2)), (4, 2, (tm 3))]),
 o1 0 (.mov (tm 4))]) .ret))
def zabQ : AFunc := ⟨5, [(0, none)], zabQ_c, none⟩
theorem zabQ_t0 : tableOf Tryz.prog 139 = some zabQ := by kernel_rfl
theorem zabQ_t : T0 139 = some zabQ := withKept_t rfl (withTrue_t rfl zabQ_t0)
theorem zabQ_runs {v : Value} {h : Heap} {R : RP} {X : XP} (k : RunC Tryz.prog T0 zabQ_c ⟨[undef, U, U, U, U], [], h, none⟩ (bodyQ Tryz.prog T0 [(0, none)] R X)) :
 Runs Tryz.prog T0 (.fn 139) [] h R X := Runs.fn zabQ_t rfl k
abbrev fn_zsdQ : FuncId := 140
def zsdQ_c : ACode :=
 (.seq (.region [
 o1 4 (.mov (.const (.int .u64 0)))]) (.seq (.seq (.region [
 o1 5 (.mov (tm 0)),
 o1 6 (.eq .ptr false (so (.binOp .eql 70 (tm 5) (.const (.pointer none)) 70) 4) (tm 5) (.const (.pointer none))),
 o1 7 (.mov (tm 6)),
 o5 8 (.mov (tm 0)) 7,
 o5 9 (.nilCheck (tm 8)) 7,
 o5 10 (.fieldAddr 4 (tm 9)) 7,
 o5 11 (.load none (tm 10)) 7,
 o5 12 (.raw (so (.unOp .not 4 (tm 11)) 4)) 7,
 o1 13 (.pick (tm 7) (.const (.bool true)) (tm 12)),
 o1 14 (.mov (tm 13)),
 o5 15 (.mov (tm 0)) 14,
 o5 16 (.nilCheck (tm 15)) 14,
 o5 17 (.fieldAddr 2 (tm 16)) 14,
 o5 18 (.fieldAddr 0 (tm 17)) 14,
 o5 19 (.load none (tm 18)) 14,
 o5 20 (.bin .neq (so (.binOp .neq 34 (tm 19) k0 34) 4) (tm 19) k0) 14,
 o1 21 (.pick (tm 14) (.const (.bool true)) (tm 20))]) (.cond (tm 21)
 (.seq (.region [
 o1 22 (.mov (tm 4)),
 o1 4 (.mov (tm 22))]) .ret)
 .skip)) (.seq (.region [
 o1 23 (.mov (tm 0)),
 o3 (.defer (.func 165) [(tm 23)])]) (.seq (.region [
 o1 24 (.mov (tm 1)),
 o1 25 (.mov (tm 0)),
 o1 26 (.nilCheck (tm 25)),
 o1 27 (.fieldAddr 1 (tm 26)),
 o1 28 (.load none (tm 27)),
 o1 29 (.callV (tm 24) [(tm 28)]),
 o1 4 (.mov (tm 29))]) .ret))))
def zsdQ : AFunc := ⟨30, [(4, none)], zsdQ_c, none⟩
theorem zsdQ_t0 : tableOf Tryz.prog 140 = some zsdQ := by kernel_rfl
theorem zsdQ_t : T0 140 = some zsdQ := withKept_t rfl (withTrue_t rfl zsdQ_t0)
theorem zsdQ_runs {v0 v1 : Value} {h : Heap} {R : RP} {X : XP} (k : RunC Tryz.prog T0 zsdQ_c ⟨[v0, v1, U, U, U, U, U, U, U, U, U, U, U, U, U, U, U, U, U, U, U, U, U, U, U, U, U, U, U, U], [], h, none⟩ (bodyQ Tryz.prog T0 [(4, none)] R X)) :
 Runs Tryz.prog T0 (.fn 140) [v0, v1] h R X := Runs.fn zsdQ_t rfl k
abbrev fn_zidQ : FuncId := 141
def zidQ_c : ACode :=
 (.seq (.region [
 o1 3 (.mov (.const (.int .u64 0)))]) (.seq (.region [
 o1 4 (.load none (tm 1)),
 o1 5 (.mov (tm 0)),
 o1 6 (.callV (.func 142) [(tm 4), (.const (.int .i64 8)), (tm 5), (.func 143)]),
 o1 3 (.mov (tm 6))]) .ret))
def zidQ : AFunc := ⟨7, [(3, none)], zidQ_c, none⟩
theorem zidQ_t0 : tableOf Tryz.prog 141 = some zidQ := by kernel_rfl
theorem zidQ_t : T0 141 = some zidQ := withKept_t rfl (withTrue_t rfl zidQ_t0)
theorem zidQ_runs {v0 v1 : Value} {h : Heap} {R : RP} {X : XP} (k : RunC Tryz.prog T0 zidQ_c ⟨[v0, v1, U, U, U, U, U], [], h, none⟩ (bodyQ Tryz.prog T0 [(3, none)] R X)) :
 Runs Tryz.prog T0 (.fn 141) [v0, v1] h R X := Runs.fn zidQ_t rfl k
abbrev fn_zwdQ : FuncId := 142
def zwdQ_c : ACode :=
 (.seq (.region [
 o1 8 (.mov (.const (.int .u64 0)))]) (.seq (.regionD [
 o1 9 (.mov (tm 1)),
 o1 10 (.mov (tm 0)),
 o1 11 (.nilCheck (tm 10)),
 o1 12 (.fieldAddr 0 (tm 11)),
 o1 13 (.load none (tm 12)),
 o1 14 (.lenSl (tm 13)),
 o1 15 (.mov (tm 0)),
 o1 16 (.nilCheck (tm 15)),
 o1 17 (.fieldAddr 1 (tm 16)),
 o1 18 (.load none (tm 17)),
 o1 19 (.bin .sub (so (.binOp .sub 3 (tm 14) (tm 18) 3) 3) (tm 14) (tm 18)),
 o1 20 (.bin .leq (so (.binOp .leq 3 (tm 9) (tm 19) 3) 4) (tm 9) (tm 19)),
 o1 21 (.mov (tm 2)),
 o2 22 (.callV (.func 132) [(tm 20), (.const (.int .i64 6)), (tm 21)])]) (.seq (.region [
 o1 23 (.mov (tm 0)),
 o1 24 (.nilCheck (tm 23)),
 o1 25 (.fieldAddr 1 (tm 24)),
 o1 26 (.load none (tm 25)),
 o1 27 (.mov (tm 1)),
 o1 28 (.bin .add (so (.binOp .add 3 (tm 26) (tm 27) 3) 3) (tm 26) (tm 27)),
 o1 29 (.nilCheck (tm 23)),
 o1 30 (.fieldAddr 1 (tm 29)),
 o3 (.store 1 (tm 30) (tm 28))]) (.seq (.regionD [
 o1 31 (.mov (tm 3)),
 o1 32 (.mov (tm 0)),
 o1 33 (.nilCheck (tm 32)),
 o1 34 (.fieldAddr 0 (tm 33)),
 o1 35 (.load none (tm 34)),
 o1 36 (.mov (tm 0)),
 o1 37 (.nilCheck (tm 36)),
 o1 38 (.fieldAddr 1 (tm 37)),
 o1 39 (.load none (tm 38)),
 o1 40 (.mov (tm 1)),
 o1 41 (.bin .sub (so (.binOp .sub 3 (tm 39) (tm 40) 3) 3) (tm 39) (tm 40)),
 o1 42 (.mov (tm 0)),
 o1 43 (.nilCheck (tm 42)),
 o1 44 (.fieldAddr 1 (tm 43)),
 o1 45 (.load none (tm 44)),
 o1 46 (.sliceSl 1 (tm 35) (some (tm 41)) (some (tm 45)) none),
 o2 47 (.callV (tm 31) [(tm 46)]),
 o2 8 (.mov (tm 47))]) .ret))))
def zwdQ : AFunc := ⟨48, [(8, none)], zwdQ_c, none⟩
theorem zwdQ_t0 : tableOf Tryz.prog 142 = some zwdQ := by kernel_rfl
theorem zwdQ_t : T0 142 = some zwdQ := withKept_t rfl (withTrue_t rfl zwdQ_t0)
theorem zwdQ_runs {v0 v1 v2 v3 : Value} {h : Heap} {R : RP} {X : XP} (k : RunC Tryz.prog T0 zwdQ_c ⟨[v0, v1, v2, v3, U, U, U, U, U, U, U, U, U, U, U, U, U, U, U, U, U, U, U, U, U, U, U, U, U, U, U, U, U, U, U, U, U, U, U, U, U, U, U, U, U, U, U, U], [], h, none⟩ (bodyQ Tryz.prog T0 [(8, none)] R X)) :
 Runs Tryz.prog T0 (.fn 142) [v0, v1, v2, v3] h R X := Runs.fn zwdQ_t rfl k
abbrev fn_zmdQ : FuncId := 143
def zmdQ_l0 : ACode :=
 (.seq (.region [
 o1 8 (.bin .lss (so (.binOp .lss 3 (tm 7) (tm 6) 3) 0) (tm 7) (tm 6))]) (.seq (.cond (tm 8)
 .skip
 (.exit 0)) (.seq (.block 1 (.seq (.region [
 o1 9 (.indexSl 1 (tm 5) (tm 7)),
 o1 10 (.load none (tm 9)),
 o1 4 (.mov (tm 10))]) (.region [
 o1 11 (.mov (tm 2)),
 o1 12 (.bin .shl (so (.binOp .shl 107 (tm 11) (.const (.int .u64 8)) 155) 107) (tm 11) (.const (.int .u64 8))),
 o1 13 (.mov (tm 4)),
 o1 14 (.conv .u64 (so (.convert 5 107 (tm 13)) 107) (tm 13)),
 o1 15 (.bin .or (so (.binOp .or 107 (tm 12) (tm 14) 107) 107) (tm 12) (tm 14)),
 o1 2 (.mov (tm 15))]))) (.region [
 o1 16 (.bin .add (so (.binOp .add 3 (tm 7) (.const (.int .i64 1)) 3) 3) (tm 7) (.const (.int .i64 1))),
 o1 7 (.mov (tm 16))]))))
def zmdQ_c : ACode :=
 (.seq (.region [
 o1 2 (.mov (.const (.int .u64 0)))]) (.seq (.seq (.region [
 o1 5 (.mov (tm 0)),
 o1 6 (.lenSl (tm 5)),
 o1 7 (.mov k0)]) (.block 0 (.loop zmdQ_l0))) (.seq (.region [
 o1 17 (.mov (tm 2)),
 o1 2 (.mov (tm 17))]) .ret)))
def zmdQ : AFunc := ⟨18, [(2, none)], zmdQ_c, none⟩
theorem zmdQ_t0 : tableOf Tryz.prog 143 = some zmdQ := by kernel_rfl
theorem zmdQ_t : T0 143 = some zmdQ := withKept_t rfl (withTrue_t rfl zmdQ_t0)
theorem zmdQ_runs {v0 : Value} {h : Heap} {R : RP} {X : XP} (k : RunC Tryz.prog T0 zmdQ_c ⟨[v0, U, U, U, U, U, U, U, U, U, U, U, U, U, U, U, U, U], [], h, none⟩ (bodyQ Tryz.prog T0 [(2, none)] R X)) :
 Runs Tryz.prog T0 (.fn 143) [v0] h R X := Runs.fn zmdQ_t rfl k
def zmdQ_l0_J (f0 f1 f3 f5 f6 f17 : Value) (ds : List Deferred) (rd : Option Nat) (I : Nat → Value → Value → Heap → Prop) (m : Nat) (s : St) : Prop := ∃ (v2 v7 : Value), ∃ h : Heap, ∃ (x4 x8 x9 x10 x11 x12 x13 x14 x15 x16 : Value), s = ⟨[f0, f1, v2, f3, x4, f5, f6, v7, x8, x9, x10, x11, x12, x13, x14, x15, x16, f17], ds, h, rd⟩ ∧ I m v2 v7 h
theorem zmdQ_l0_rule {f0 f1 f3 f5 f6 f17 : Value} {ds : List Deferred} {rd : Option Nat} {Q : QP} (I : Nat → Value → Value → Heap → Prop) (hb : ∀ (m : Nat) (v2 v7 : Value) (h : Heap) (x4 x8 x9 x10 x11 x12 x13 x14 x15 x16 : Value) , I m v2 v7 h → RunC Tryz.prog T0 zmdQ_l0 ⟨[f0, f1, v2, f3, x4, f5, f6, v7, x8, x9, x10, x11, x12, x13, x14, x15, x16, f17], ds, h, rd⟩ (loopQ (zmdQ_l0_J f0 f1 f3 f5 f6 f17 ds rd I) m Q))
 (m : Nat) {v2 v7 : Value} {h : Heap} {x4 x8 x9 x10 x11 x12 x13 x14 x15 x16 : Value} (hi : I m v2 v7 h) : RunC Tryz.prog T0 (.loop zmdQ_l0) ⟨[f0, f1, v2, f3, x4, f5, f6, v7, x8, x9, x10, x11, x12, x13, x14, x15, x16, f17], ds, h, rd⟩ Q :=
 RunC.loopJ (zmdQ_l0_J f0 f1 f3 f5 f6 f17 ds rd I) (fun m s hj => by obtain ⟨v2, v7, h, x4, x8, x9, x10, x11, x12, x13, x14, x15, x16, rfl, hi⟩ := hj; exact hb m v2 v7 h x4 x8 x9 x10 x11 x12 x13 x14 x15 x16 hi) m _ ⟨_, _, h, _, _, _, _, _, _, _, _, _, _, rfl, hi⟩
theorem zmdQ_l0_again {f0 f1 f3 f5 f6 f17 : Value} {ds : List Deferred} {rd : Option Nat} {Q : QP} {I : Nat → Value → Value → Heap → Prop} {m : Nat} (m' : Nat) {v2 v7 : Value} {h : Heap} {x4 x8 x9 x10 x11 x12 x13 x14 x15 x16 : Value} (hm : m' < m) (hi : I m' v2 v7 h) : loopQ (zmdQ_l0_J f0 f1 f3 f5 f6 f17 ds rd I) m Q .normal ⟨[f0, f1, v2, f3, x4, f5, f6, v7, x8, x9, x10, x11, x12, x13, x14, x15, x16, f17], ds, h, rd⟩ :=
 loopQ.again m' hm ⟨_, _, h, _, _, _, _, _, _, _, _, _, _, rfl, hi⟩
abbrev fn_zsQ : FuncId := 144
def zsQ_c : ACode :=
 (.seq (.region [
 o1 0 (.mov (.const .nilFunc))]) (.seq (.region [
 o1 1 (.alloc 3 [(.int .i64 0)]),
 o3 (.store 1 (tm 1) (.const (.int .i64 (-1))))]) (.seq (.region [
 o1 2 (.mkFunc (.func 171) [] [(tm 1)]),
 o1 0 (.mov (tm 2))]) .ret)))
def zsQ : AFunc := ⟨3, [(0, none)], zsQ_c, none⟩
theorem zsQ_t0 : tableOf Tryz.prog 144 = some zsQ := by kernel_rfl
theorem zsQ_t : T0 144 = some zsQ := withKept_t rfl (withTrue_t rfl zsQ_t0)
theorem zsQ_runs {v : Value} {h : Heap} {R : RP} {X : XP} (k : RunC Tryz.prog T0 zsQ_c ⟨[undef, U, U], [], h, none⟩ (bodyQ Tryz.prog T0 [(0, none)] R X)) :
 Runs Tryz.prog T0 (.fn 144) [] h R X := Runs.fn zsQ_t rfl k
abbrev fn_zqdQ : FuncId := 145
def zqdQ_c : ACode :=
 (.seq (.region [
 o1 4 (.alloc 64 [(.int .u8 0), (.int .u8 0), (.int .u8 0), (.int .u8 0)])]) (.seq (.seq (.region [
 o1 5 (.mov (tm 0)),
 o1 6 (.eq .ptr false (so (.binOp .eql 70 (tm 5) (.const (.pointer none)) 70) 4) (tm 5) (.const (.pointer none))),
 o1 7 (.mov (tm 6)),
 o5 8 (.mov (tm 0)) 7,
 o5 9 (.nilCheck (tm 8)) 7,
 o5 10 (.fieldAddr 4 (tm 9)) 7,
 o5 11 (.load none (tm 10)) 7,
 o5 12 (.raw (so (.unOp .not 4 (tm 11)) 4)) 7,
 o1 13 (.pick (tm 7) (.const (.bool true)) (tm 12)),
 o1 14 (.mov (tm 13)),
 o5 15 (.mov (tm 0)) 14,
 o5 16 (.nilCheck (tm 15)) 14,
 o5 17 (.fieldAddr 2 (tm 16)) 14,
 o5 18 (.fieldAddr 0 (tm 17)) 14,
 o5 19 (.load none (tm 18)) 14,
 o5 20 (.bin .neq (so (.binOp .neq 34 (tm 19) k0 34) 4) (tm 19) k0) 14,
 o1 21 (.pick (tm 14) (.const (.bool true)) (tm 20))]) (.cond (tm 21)
 (.seq (.region [
 o1 22 (.load (some 4) (tm 4)),
 o3 (.store 4 (tm 4) (tm 22))]) .ret)
 .skip)) (.seq (.region [
 o1 23 (.mov (tm 0)),
 o3 (.defer (.func 165) [(tm 23)])]) (.seq (.region [
 o1 24 (.mov (tm 1)),
 o1 25 (.mov (tm 0)),
 o1 26 (.nilCheck (tm 25)),
 o1 27 (.fieldAddr 1 (tm 26)),
 o1 28 (.load none (tm 27)),
 o1 29 (.callV (tm 24) [(tm 28)]),
 o3 (.store 4 (tm 4) (tm 29))]) .ret))))
def zqdQ : AFunc := ⟨30, [(4, some (some 4))], zqdQ_c, none⟩
theorem zqdQ_t0 : tableOf Tryz.prog 145 = some zqdQ := by kernel_rfl
theorem zqdQ_t : T0 145 = some zqdQ := withKept_t rfl (withTrue_t rfl zqdQ_t0)
theorem zqdQ_runs {v0 v1 : Value} {h : Heap} {R : RP} {X : XP} (k : RunC Tryz.prog T0 zqdQ_c ⟨[v0, v1, U, U, U, U, U, U, U, U, U, U, U, U, U, U, U, U, U, U, U, U, U, U, U, U, U, U, U, U], [], h, none⟩ (bodyQ Tryz.prog T0 [(4, some (some 4))] R X)) :
 Runs Tryz.prog T0 (.fn 145) [v0, v1] h R X := Runs.fn zqdQ_t rfl k
abbrev fn_zcdQ : FuncId := 146
def zcdQ_c : ACode :=
 (.seq (.region [
 o1 3 (.alloc 64 [(.int .u8 0), (.int .u8 0), (.int .u8 0), (.int .u8 0)])]) (.seq (.region [
 o1 4 (.load none (tm 1)),
 o1 5 (.mov (tm 0)),
 o1 6 (.callV (.func 147) [(tm 4), (.const (.int .i64 4)), (tm 5), (.func 148)]),
 o3 (.store 4 (tm 3) (tm 6))]) .ret))
def zcdQ : AFunc := ⟨7, [(3, some (some 4))], zcdQ_c, none⟩
theorem zcdQ_t0 : tableOf Tryz.prog 146 = some zcdQ := by kernel_rfl
theorem zcdQ_t : T0 146 = some zcdQ := withKept_t rfl (withTrue_t rfl zcdQ_t0)
theorem zcdQ_runs {v0 v1 : Value} {h : Heap} {R : RP} {X : XP} (k : RunC Tryz.prog T0 zcdQ_c ⟨[v0, v1, U, U, U, U, U], [], h, none⟩ (bodyQ Tryz.prog T0 [(3, some (some 4))] R X)) :
 Runs Tryz.prog T0 (.fn 146) [v0, v1] h R X := Runs.fn zcdQ_t rfl k
abbrev fn_zvdQ : FuncId := 147
def zvdQ_c : ACode :=
 (.seq (.region [
 o1 8 (.alloc 64 [(.int .u8 0), (.int .u8 0), (.int .u8 0), (.int .u8 0)])]) (.seq (.regionD [
 o1 9 (.mov (tm 1)),
 o1 10 (.mov (tm 0)),
 o1 11 (.nilCheck (tm 10)),
 o1 12 (.fieldAddr 0 (tm 11)),
 o1 13 (.load none (tm 12)),
 o1 14 (.lenSl (tm 13)),
 o1 15 (.mov (tm 0)),
 o1 16 (.nilCheck (tm 15)),
 o1 17 (.fieldAddr 1 (tm 16)),
 o1 18 (.load none (tm 17)),
 o1 19 (.bin .sub (so (.binOp .sub 3 (tm 14) (tm 18) 3) 3) (tm 14) (tm 18)),
 o1 20 (.bin .leq (so (.binOp .leq 3 (tm 9) (tm 19) 3) 4) (tm 9) (tm 19)),
 o1 21 (.mov (tm 2)),
 o2 22 (.callV (.func 132) [(tm 20), (.const (.int .i64 6)), (tm 21)])]) (.seq (.region [
 o1 23 (.mov (tm 0)),
 o1 24 (.nilCheck (tm 23)),
 o1 25 (.fieldAddr 1 (tm 24)),
 o1 26 (.load none (tm 25)),
 o1 27 (.mov (tm 1)),
 o1 28 (.bin .add (so (.binOp .add 3 (tm 26) (tm 27) 3) 3) (tm 26) (tm 27)),
 o1 29 (.nilCheck (tm 23)),
 o1 30 (.fieldAddr 1 (tm 29)),
 o3 (.store 1 (tm 30) (tm 28))]) (.seq (.regionD [
 o1 31 (.mov (tm 3)),
 o1 32 (.mov (tm 0)),
 o1 33 (.nilCheck (tm 32)),
 o1 34 (.fieldAddr 0 (tm 33)),
 o1 35 (.load none (tm 34)),
 o1 36 (.mov (tm 0)),
 o1 37 (.nilCheck (tm 36)),
 o1 38 (.fieldAddr 1 (tm 37)),
 o1 39 (.load none (tm 38)),
 o1 40 (.mov (tm 1)),
 o1 41 (.bin .sub (so (.binOp .sub 3 (tm 39) (tm 40) 3) 3) (tm 39) (tm 40)),
 o1 42 (.mov (tm 0)),
 o1 43 (.nilCheck (tm 42)),
 o1 44 (.fieldAddr 1 (tm 43)),
 o1 45 (.load none (tm 44)),
 o1 46 (.sliceSl 1 (tm 35) (some (tm 41)) (some (tm 45)) none),
 o2 47 (.callV (tm 31) [(tm 46)]),
 ⟨none, .store 4 (tm 8) (tm 47), none, [], true⟩]) .ret))))
def zvdQ : AFunc := ⟨48, [(8, some (some 4))], zvdQ_c, none⟩
theorem zvdQ_t0 : tableOf Tryz.prog 147 = some zvdQ := by kernel_rfl
theorem zvdQ_t : T0 147 = some zvdQ := withKept_t rfl (withTrue_t rfl zvdQ_t0)
theorem zvdQ_runs {v0 v1 v2 v3 : Value} {h : Heap} {R : RP} {X : XP} (k : RunC Tryz.prog T0 zvdQ_c ⟨[v0, v1, v2, v3, U, U, U, U, U, U, U, U, U, U, U, U, U, U, U, U, U, U, U, U, U, U, U, U, U, U, U, U, U, U, U, U, U, U, U, U, U, U, U, U, U, U, U, U], [], h, none⟩ (bodyQ Tryz.prog T0 [(8, some (some 4))] R X)) :
 Runs Tryz.prog T0 (.fn 147) [v0, v1, v2, v3] h R X := Runs.fn zvdQ_t rfl k
abbrev fn_zddQ : FuncId := 148
def zddQ_c : ACode :=
 (.seq (.region [
 o1 2 (.alloc 64 [(.int .u8 0), (.int .u8 0), (.int .u8 0), (.int .u8 0)])]) (.seq (.region [
 o1 3 (.mov (tm 0)),
 o1 4 (.arrayAt 4 (tm 3)),
 o1 5 (.load (some 4) (tm 4)),
 o3 (.store 4 (tm 2) (tm 5))]) .ret))
def zddQ : AFunc := ⟨6, [(2, some (some 4))], zddQ_c, none⟩
theorem zddQ_t0 : tableOf Tryz.prog 148 = some zddQ := by kernel_rfl
theorem zddQ_t : T0 148 = some zddQ := withKept_t rfl (withTrue_t rfl zddQ_t0)
theorem zddQ_runs {v0 : Value} {h : Heap} {R : RP} {X : XP} (k : RunC Tryz.prog T0 zddQ_c ⟨[v0, U, U, U, U, U], [], h, none⟩ (bodyQ Tryz.prog T0 [(2, some (some 4))] R X)) :
 Runs Tryz.prog T0 (.fn 148) [v0] h R X := Runs.fn zddQ_t rfl k
abbrev fn_zzbQ : FuncId := 149
def zzbQ_c : ACode :=
 (.seq (.region [
 o1 4 (.mov (.const (.string ⟨⟨[]⟩⟩)))]) (.seq (.region [
 o1 5 (.mov (tm 0)),
 o1 6 (.mov (tm 1)),
 o1 7 (.callV (.func 50) [(tm 5), (tm 6)]),
 o1 8 (.bytesToStr (tm 7)),
 o1 4 (.mov (tm 8))]) .ret))
def zzbQ : AFunc := ⟨9, [(4, none)], zzbQ_c, none⟩
theorem zzbQ_t0 : tableOf Tryz.prog 149 = some zzbQ := by kernel_rfl
theorem zzbQ_t : T0 149 = some zzbQ := withKept_t rfl (withTrue_t rfl zzbQ_t0)
theorem zzbQ_runs {v0 v1 : Value} {h : Heap} {R : RP} {X : XP} (k : RunC Tryz.prog T0 zzbQ_c ⟨[v0, v1, U, U, U, U, U, U, U], [], h, none⟩ (bodyQ Tryz.prog T0 [(4, none)] R X)) :
 Runs Tryz.prog T0 (.fn 149) [v0, v1] h R X := Runs.fn zzbQ_t rfl k
abbrev fn_zicQ : FuncId := 150
def zicQ_l0 : ACode :=
 (.seq (.seq (.region [
 o1 5 (.mov (tm 3)),
 o1 6 (.mov (tm 0)),
 o1 7 (.lenStr (tm 6)),
 o1 8 (.bin .lss (so (.binOp .lss 3 (tm 5) (tm 7) 3) 4) (tm 5) (tm 7))]) (.cond (tm 8)
 .skip
 (.exit 0))) (.seq (.block 1 (.seq (.region [
 o1 11 (.mov (tm 0)),
 o1 12 (.mov (tm 3)),
 o1 13 (.raw (so (.index 9 (tm 11) (tm 12)) 5)),
 o1 4 (.mov (tm 13))]) (.seq (.region [
 o1 14 (.mov (tm 4)),
 o1 15 (.bin .lss (so (.binOp .lss 5 (tm 14) (.const (.int .u8 97)) 5) 4) (tm 14) (.const (.int .u8 97))),
 o1 16 (.mov (tm 15)),
 o5 17 (.mov (tm 4)) 16,
 o5 18 (.bin .gtr (so (.binOp .gtr 5 (tm 17) (.const (.int .u8 122)) 5) 4) (tm 17) (.const (.int .u8 122))) 16,
 o1 19 (.pick (tm 16) (.const (.bool true)) (tm 18)),
 o1 20 (.mov (tm 19)),
 o4 21 (.mov (tm 4)) 20,
 o4 22 (.bin .lss (so (.binOp .lss 5 (tm 21) (.const (.int .u8 48)) 5) 4) (tm 21) (.const (.int .u8 48))) 20,
 o4 23 (.mov (tm 22)) 20,
 o5 24 (.mov (tm 4)) 23,
 o5 25 (.bin .gtr (so (.binOp .gtr 5 (tm 24) (.const (.int .u8 57)) 5) 4) (tm 24) (.const (.int .u8 57))) 23,
 o4 26 (.pick (tm 23) (.const (.bool true)) (tm 25)) 20,
 o1 27 (.pick (tm 20) (tm 26) (.const (.bool false))),
 o1 28 (.mov (tm 27)),
 o4 29 (.mov (tm 4)) 28,
 o4 30 (.bin .neq (so (.binOp .neq 5 (tm 29) (.const (.int .u8 45)) 5) 4) (tm 29) (.const (.int .u8 45))) 28,
 o1 31 (.pick (tm 28) (tm 30) (.const (.bool false)))]) (.cond (tm 31)
 (.seq (.region [
 o1 2 (.mov (.const (.bool false)))]) .ret)
 .skip)))) (.region [
 o1 9 (.mov (tm 3)),
 o1 10 (.bin .add (so (.binOp .add 3 (tm 9) (.const (.int .i64 1)) 3) 3) (tm 9) (.const (.int .i64 1))),
 o1 3 (.mov (tm 10))])))
def zicQ_c : ACode :=
 (.seq (.region [
 o1 2 (.mov (.const (.bool false)))]) (.seq (.seq (.region [
 o1 3 (.mov k0)]) (.block 0 (.loop zicQ_l0))) (.seq (.region [
 o1 32 (.mov (tm 0)),
 o1 33 (.lenStr (tm 32)),
 o1 34 (.bin .geq (so (.binOp .geq 3 (tm 33) (.const (.int .i64 1)) 3) 4) (tm 33) (.const (.int .i64 1))),
 o1 35 (.mov (tm 34)),
 o4 36 (.mov (tm 0)) 35,
 o4 37 (.lenStr (tm 36)) 35,
 o4 38 (.bin .leq (so (.binOp .leq 3 (tm 37) (.const (.int .i64 32)) 3) 4) (tm 37) (.const (.int .i64 32))) 35,
 o1 39 (.pick (tm 35) (tm 38) (.const (.bool false))),
 o1 2 (.mov (tm 39))]) .ret)))
def zicQ : AFunc := ⟨40, [(2, none)], zicQ_c, none⟩
theorem zicQ_t0 : tableOf Tryz.prog 150 = some zicQ := by kernel_rfl
theorem zicQ_t : T0 150 = some zicQ := withKept_t rfl (withTrue_t rfl zicQ_t0)
theorem zicQ_runs {v0 : Value} {h : Heap} {R : RP} {X : XP} (k : RunC Tryz.prog T0 zicQ_c ⟨[v0, U, U, U, U, U, U, U, U, U, U, U, U, U, U, U, U, U, U, U, U, U, U, U, U, U, U, U, U, U, U, U, U, U, U, U, U, U, U, U], [], h, none⟩ (bodyQ Tryz.prog T0 [(2, none)] R X)) :
 Runs Tryz.prog T0 (.fn 150) [v0] h R X := Runs.fn zicQ_t rfl k
def zicQ_l0_J (f0 f1 f32 f33 f34 f35 f36 f37 f38 f39 : Value) (ds : List Deferred) (rd : Option Nat) (I : Nat → Value → Heap → Prop) (m : Nat) (s : St) : Prop := ∃ (v3 : Value), ∃ h : Heap, ∃ (x2 x4 x5 x6 x7 x8 x9 x10 x11 x12 x13 x14 x15 x16 x17 x18 x19 x20 x21 x22 x23 x24 x25 x26 x27 x28 x29 x30 x31 : Value), s = ⟨[f0, f1, x2, v3, x4, x5, x6, x7, x8, x9, x10, x11, x12, x13, x14, x15, x16, x17, x18, x19, x20, x21, x22, x23, x24, x25, x26, x27, x28, x29, x30, x31, f32, f33, f34, f35, f36, f37, f38, f39], ds, h, rd⟩ ∧ I m v3 h
theorem zicQ_l0_rule {f0 f1 f32 f33 f34 f35 f36 f37 f38 f39 : Value} {ds : List Deferred} {rd : Option Nat} {Q : QP} (I : Nat → Value → Heap → Prop) (hb : ∀ (m : Nat) (v3 : Value) (h : Heap) (x2 x4 x5 x6 x7 x8 x9 x10 x11 x12 x13 x14 x15 x16 x17 x18 x19 x20 x21 x22 x23 x24 x25 x26 x27 x28 x29 x30 x31 : Value) , I m v3 h → RunC Tryz.prog T0 zicQ_l0 ⟨[f0, f1, x2, v3, x4, x5, x6, x7, x8, x9, x10, x11, x12, x13, x14, x15, x16, x17, x18, x19, x20, x21, x22, x23, x24, x25, x26, x27, x28, x29, x30, x31, f32, f33, f34, f35, f36, f37, f38, f39], ds, h, rd⟩ (loopQ (zicQ_l0_J f0 f1 f32 f33 f34 f35 f36 f37 f38 f39 ds rd I) m Q))
 (m : Nat) {v3 : Value} {h : Heap} {x2 x4 x5 x6 x7 x8 x9 x10 x11 x12 x13 x14 x15 x16 x17 x18 x19 x20 x21 x22 x23 x24 x25 x26 x27 x28 x29 x30 x31 : Value} (hi : I m v3 h) : RunC Tryz.prog T0 (.loop zicQ_l0) ⟨[f0, f1, x2, v3, x4, x5, x6, x7, x8, x9, x10, x11, x12, x13, x14, x15, x16, x17, x18, x19, x20, x21, x22, x23, x24, x25, x26, x27, x28, x29, x30, x31, f32, f33, f34, f35, f36, f37, f38, f39], ds, h, rd⟩ Q :=
 RunC.loopJ (zicQ_l0_J f0 f1 f32 f33 f34 f35 f36 f37 f38 f39 ds rd I) (fun m s hj => by obtain ⟨v3, h, x2, x4, x5, x6, x7, x8, x9, x10, x11, x12, x13, x14, x15, x16, x17, x18, x19, x20, x21, x22, x23, x24, x25, x26, x27, x28, x29, x30, x31, rfl, hi⟩ := hj; exact hb m v3 h x2 x4 x5 x6 x7 x8 x9 x10 x11 x12 x13 x14 x15 x16 x17 x18 x19 x20 x21 x22 x23 x24 x25 x26 x27 x28 x29 x30 x31 hi) m _ ⟨_, h, _, _, _, _, _, _, _, _, _, _, _, _, _, _, _, _, _, _, _, _, _, _, _, _, _, _, _, _, _, rfl, hi⟩
theorem zicQ_l0_again {f0 f1 f32 f33 f34 f35 f36 f37 f38 f39 : Value} {ds : List Deferred} {rd : Option Nat} {Q : QP} {I : Nat → Value → Heap → Prop} {m : Nat} (m' : Nat) {v3 : Value} {h : Heap} {x2 x4 x5 x6 x7 x8 x9 x10 x11 x12 x13 x14 x15 x16 x17 x18 x19 x20 x21 x22 x23 x24 x25 x26 x27 x28 x29 x30 x31 : Value} (hm : m' < m) (hi : I m' v3 h) : loopQ (zicQ_l0_J f0 f1 f32 f33 f34 f35 f36 f37 f38 f39 ds rd I) m Q .normal ⟨[f0, f1, x2, v3, x4, x5, x6, x7, x8, x9, x10, x11, x12, x13, x14, x15, x16, x17, x18, x19, x20, x21, x22, x23, x24, x25, x26, x27, x28, x29, x30, x31, f32, f33, f34, f35, f36, f37, f38, f39], ds, h, rd⟩ :=
 loopQ.again m' hm ⟨_, h, _, _, _, _, _, _, _, _, _, _, _, _, _, _, _, _, _, _, _, _, _, _, _, _, _, _, _, _, _, rfl, hi⟩
abbrev fn_zecQ : FuncId := 151
def zecQ_l0 : ACode :=
 (.seq (.seq (.region [
 o1 6 (.mov (tm 5)),
 o1 7 (.bin .lss (so (.binOp .lss 3 (tm 6) (.const (.int .i64 4)) 3) 4) (tm 6) (.const (.int .i64 4)))]) (.cond (tm 7)
 .skip
 (.exit 0))) (.seq (.block 1 (.seq (.regionD [
 o1 10 (.mov (tm 5)),
 o1 11 (.indexArr 4 1 (tm 2) (tm 10)),
 o1 12 (.load none (tm 11)),
 o1 13 (.mov (tm 5)),
 o1 14 (.indexArr 4 1 (tm 3) (tm 13)),
 o1 15 (.load none (tm 14)),
 o2 16 (.bin .neq (so (.binOp .neq 5 (tm 12) (tm 15) 5) 4) (tm 12) (tm 15))]) (.cond (tm 16)
 (.seq (.regionD [
 o1 17 (.mov (tm 5)),
 o1 18 (.indexArr 4 1 (tm 2) (tm 17)),
 o1 19 (.load none (tm 18)),
 o1 20 (.mov (tm 5)),
 o1 21 (.indexArr 4 1 (tm 3) (tm 20)),
 o1 22 (.load none (tm 21)),
 o2 23 (.bin .lss (so (.binOp .lss 5 (tm 19) (tm 22) 5) 4) (tm 19) (tm 22)),
 o2 4 (.mov (tm 23))]) .ret)
 .skip))) (.region [
 o1 8 (.mov (tm 5)),
 o1 9 (.bin .add (so (.binOp .add 3 (tm 8) (.const (.int .i64 1)) 3) 3) (tm 8) (.const (.int .i64 1))),
 o1 5 (.mov (tm 9))])))
def zecQ_c : ACode :=
 (.seq (.region [
 o1 2 (.box 64 (tm 0)),
 o1 3 (.box 64 (tm 1)),
 o1 4 (.mov (.const (.bool false)))]) (.seq (.seq (.region [
 o1 5 (.mov k0)]) (.block 0 (.loop zecQ_l0))) (.seq (.region [
 o1 4 (.mov (.const (.bool false)))]) .ret)))
def zecQ : AFunc := ⟨24, [(4, none)], zecQ_c, none⟩
theorem zecQ_t0 : tableOf Tryz.prog 151 = some zecQ := by kernel_rfl
theorem zecQ_t : T0 151 = some zecQ := withKept_t rfl (withTrue_t rfl zecQ_t0)
theorem zecQ_runs {v0 v1 : Value} {h : Heap} {R : RP} {X : XP} (k : RunC Tryz.prog T0 zecQ_c ⟨[v0, v1, U, U, U, U, U, U, U, U, U, U, U, U, U, U, U, U, U, U, U, U, U, U], [], h, none⟩ (bodyQ Tryz.prog T0 [(4, none)] R X)) :
 Runs Tryz.prog T0 (.fn 151) [v0, v1] h R X := Runs.fn zecQ_t rfl k
def zecQ_l0_J (f0 f1 f2 f3 : Value) (ds : List Deferred) (rd : Option Nat) (I : Nat → Value → Heap → Prop) (m : Nat) (s : St) : Prop := ∃ (v5 : Value), ∃ h : Heap, ∃ (x4 x6 x7 x8 x9 x10 x11 x12 x13 x14 x15 x16 x17 x18 x19 x20 x21 x22 x23 : Value), s = ⟨[f0, f1, f2, f3, x4, v5, x6, x7, x8, x9, x10, x11, x12, x13, x14, x15, x16, x17, x18, x19, x20, x21, x22, x23], ds, h, rd⟩ ∧ I m v5 h
theorem zecQ_l0_rule {f0 f1 f2 f3 : Value} {ds : List Deferred} {rd : Option Nat} {Q : QP} (I : Nat → Value → Heap → Prop) (hb : ∀ (m : Nat) (v5 : Value) (h : Heap) (x4 x6 x7 x8 x9 x10 x11 x12 x13 x14 x15 x16 x17 x18 x19 x20 x21 x22 x23 : Value) , I m v5 h → RunC Tryz.prog T0 zecQ_l0 ⟨[f0, f1, f2, f3, x4, v5, x6, x7, x8, x9, x10, x11, x12, x13, x14, x15, x16, x17, x18, x19, x20, x21, x22, x23], ds, h, rd⟩ (loopQ (zecQ_l0_J f0 f1 f2 f3 ds rd I) m Q))
 (m : Nat) {v5 : Value} {h : Heap} {x4 x6 x7 x8 x9 x10 x11 x12 x13 x14 x15 x16 x17 x18 x19 x20 x21 x22 x23 : Value} (hi : I m v5 h) : RunC Tryz.prog T0 (.loop zecQ_l0) ⟨[f0, f1, f2, f3, x4, v5, x6, x7, x8, x9, x10, x11, x12, x13, x14, x15, x16, x17, x18, x19, x20, x21, x22, x23], ds, h, rd⟩ Q :=
 RunC.loopJ (zecQ_l0_J f0 f1 f2 f3 ds rd I) (fun m s hj => by obtain ⟨v5, h, x4, x6, x7, x8, x9, x10, x11, x12, x13, x14, x15, x16, x17, x18, x19, x20, x21, x22, x23, rfl, hi⟩ := hj; exact hb m v5 h x4 x6 x7 x8 x9 x10 x11 x12 x13 x14 x15 x16 x17 x18 x19 x20 x21 x22 x23 hi) m _ ⟨_, h, _, _, _, _, _, _, _, _, _, _, _, _, _, _, _, _, _, _, _, rfl, hi⟩
theorem zecQ_l0_again {f0 f1 f2 f3 : Value} {ds : List Deferred} {rd : Option Nat} {Q : QP} {I : Nat → Value → Heap → Prop} {m : Nat} (m' : Nat) {v5 : Value} {h : Heap} {x4 x6 x7 x8 x9 x10 x11 x12 x13 x14 x15 x16 x17 x18 x19 x20 x21 x22 x23 : Value} (hm : m' < m) (hi : I m' v5 h) : loopQ (zecQ_l0_J f0 f1 f2 f3 ds rd I) m Q .normal ⟨[f0, f1, f2, f3, x4, v5, x6, x7, x8, x9, x10, x11, x12, x13, x14, x15, x16, x17, x18, x19, x20, x21, x22, x23], ds, h, rd⟩ :=
 loopQ.again m' hm ⟨_, h, _, _, _, _, _, _, _, _, _, _, _, _, _, _, _, _, _, _, _, rfl, hi⟩
abbrev fn_zpQ : FuncId := 154
def zpQ_c : ACode :=
 (.seq (.region [
 o1 4 (.mov k0)]) (.seq (.region [
 o1 5 (.mov (tm 0)),
 o1 6 (.mov (tm 1)),
 o1 7 (.ext .compare (.func 173) [(tm 5), (tm 6)]),
 o1 4 (.mov (tm 7))]) .ret))
def zpQ : AFunc := ⟨8, [(4, none)], zpQ_c, none⟩
theorem zpQ_t0 : tableOf Tryz.prog 154 = some zpQ := by kernel_rfl
theorem zpQ_t : T0 154 = some zpQ := withKept_t rfl (withTrue_t rfl zpQ_t0)
theorem zpQ_runs {v0 v1 : Value} {h : Heap} {R : RP} {X : XP} (k : RunC Tryz.prog T0 zpQ_c ⟨[v0, v1, U, U, U, U, U, U], [], h, none⟩ (bodyQ Tryz.prog T0 [(4, none)] R X)) :
 Runs Tryz.prog T0 (.fn 154) [v0, v1] h R X := Runs.fn zpQ_t rfl k
abbrev fn_zjdQ : FuncId := 165
def zjdQ_c : ACode :=
 (.seq (.region [
 o1 5 (.recover),
 o1 2 (.mov (tm 5))]) (.seq (.region [
 o1 6 (.mov (tm 2)),
 o1 7 (.eq .iface true (so (.binOp .neq 20 (tm 6) (.const .nilIface) 20) 4) (tm 6) (.const .nilIface))]) (.cond (tm 7)
 (.seq (.region [
 o1 9 (.mov (tm 2)),
 o1 10 (.assertTo 203 (.agg ⟨[(.int .i64 0), (.int .i64 0)]⟩) true (tm 9)),
 o1 8 (.mov (tm 10)),
 o1 11 (.extract 0 (tm 8)),
 o1 12 (.extract 1 (tm 8)),
 o1 3 (.alloc 203 [(.int .i64 0), (.int .i64 0)]),
 o3 (.store 2 (tm 3) (tm 11)),
 o1 4 (.mov (tm 12))]) (.seq (.seq (.region [
 o1 13 (.mov (tm 4)),
 o1 14 (.raw (so (.unOp .not 4 (tm 13)) 4))]) (.cond (tm 14)
 (.region [
 o1 15 (.mov (tm 2)),
 o3 (.panic (tm 15))])
 .skip)) (.region [
 o1 16 (.mov (tm 0)),
 o1 17 (.fieldAddr 0 (tm 3)),
 o1 18 (.load (some 2) (tm 17)),
 o1 19 (.nilCheck (tm 16)),
 o1 20 (.fieldAddr 2 (tm 19)),
 o3 (.store 2 (tm 20) (tm 18))])))
 .skip)))
def zjdQ : AFunc := ⟨21, [], zjdQ_c, none⟩
theorem zjdQ_t0 : tableOf Tryz.prog 165 = some zjdQ := by kernel_rfl
theorem zjdQ_t : T0 165 = some zjdQ := withKept_t rfl (withTrue_t rfl zjdQ_t0)
theorem zjdQ_df {v0 : Value} {u : FrameMode} {h : Heap} {R : FrameMode → Heap → Prop} {X : List PanicEntry → FrameMode → Heap → Prop} (k : RunT Tryz.prog T0 zjdQ_c ⟨⟨[v0, U, U, U, U, U, U, U, U, U, U, U, U, U, U, U, U, U, U, U, U], [], h, none⟩, u⟩ (doneQ [] R X)) :
 RunDf Tryz.prog T0 165 [v0] u h R X := RunDf.fn zjdQ_t rfl k
abbrev fn_zldQ : FuncId := 166
def zldQ_c : ACode :=
 (.seq (.region [
 o1 4 (.mov (.const (.int .u64 0)))]) (.seq (.seq (.region [
 o1 5 (.load none (tm 1)),
 o1 6 (.bin .gtr (so (.binOp .gtr 3 (tm 5) k0 3) 4) (tm 5) k0)]) (.cond (tm 6)
 (.region [
 o1 7 (.mov (tm 0)),
 o1 8 (.indexSl 1 (tm 7) k0),
 o1 9 (.load none (tm 8)),
 o3 (.store 1 (tm 2) (tm 9))])
 .skip)) (.seq (.region [
 o1 10 (.mov (tm 0)),
 o1 11 (.callV (.func 143) [(tm 10)]),
 o1 4 (.mov (tm 11))]) .ret)))
def zldQ : AFunc := ⟨12, [(4, none)], zldQ_c, none⟩
theorem zldQ_t0 : tableOf Tryz.prog 166 = some zldQ := by kernel_rfl
theorem zldQ_t : T0 166 = some zldQ := withKept_t rfl (withTrue_t rfl zldQ_t0)
theorem zldQ_runs {v0 v1 v2 : Value} {h : Heap} {R : RP} {X : XP} (k : RunC Tryz.prog T0 zldQ_c ⟨[v0, v1, v2, U, U, U, U, U, U, U, U, U], [], h, none⟩ (bodyQ Tryz.prog T0 [(4, none)] R X)) :
 Runs Tryz.prog T0 (.fn 166) [v0, v1, v2] h R X := Runs.fn zldQ_t rfl k
abbrev fn_zbbQ : FuncId := 167
def zbbQ_c : ACode :=
 (.seq (.region [
 o1 1 (.box 25 (tm 0)),
 o1 2 (.mov (.const (.bool false)))]) (.seq (.region [
 o1 3 (.fieldAddr 0 (tm 1)),
 o1 4 (.load none (tm 3)),
 o1 5 (.callV (.func 168) [(tm 4)]),
 o1 2 (.mov (tm 5))]) .ret))
def zbbQ : AFunc := ⟨6, [(2, none)], zbbQ_c, none⟩
theorem zbbQ_t0 : tableOf Tryz.prog 167 = some zbbQ := by kernel_rfl
theorem zbbQ_t : T0 167 = some zbbQ := withKept_t rfl (withTrue_t rfl zbbQ_t0)
theorem zbbQ_runs {v0 : Value} {h : Heap} {R : RP} {X : XP} (k : RunC Tryz.prog T0 zbbQ_c ⟨[v0, U, U, U, U, U], [], h, none⟩ (bodyQ Tryz.prog T0 [(2, none)] R X)) :
 Runs Tryz.prog T0 (.fn 167) [v0] h R X := Runs.fn zbbQ_t rfl k
abbrev fn_zwQ : FuncId := 168
def zwQ_c : ACode :=
 (.seq (.region [
 o1 2 (.mov (.const (.bool false)))]) (.seq (.region [
 o1 3 (.mov (tm 0)),
 o1 4 (.lenStr (tm 3)),
 o1 5 (.bin .geq (so (.binOp .geq 3 (tm 4) (.const (.int .i64 1)) 3) 4) (tm 4) (.const (.int .i64 1))),
 o1 6 (.mov (tm 5)),
 o4 7 (.mov (tm 0)) 6,
 o4 8 (.lenStr (tm 7)) 6,
 o4 9 (.bin .leq (so (.binOp .leq 3 (tm 8) (.const (.int .i64 32)) 3) 4) (tm 8) (.const (.int .i64 32))) 6,
 o1 10 (.pick (tm 6) (tm 9) (.const (.bool false))),
 o1 11 (.mov (tm 10)),
 o4 12 (.mov (tm 0)) 11,
 o4 13 (.callV (.func 178) [(tm 12), (.func 179)]) 11,
 o1 14 (.pick (tm 11) (tm 13) (.const (.bool false))),
 o1 2 (.mov (tm 14))]) .ret))
def zwQ : AFunc := ⟨15, [(2, none)], zwQ_c, none⟩
theorem zwQ_t0 : tableOf Tryz.prog 168 = some zwQ := by kernel_rfl
theorem zwQ_t : T0 168 = some zwQ := withKept_t rfl (withTrue_t rfl zwQ_t0)
theorem zwQ_runs {v0 : Value} {h : Heap} {R : RP} {X : XP} (k : RunC Tryz.prog T0 zwQ_c ⟨[v0, U, U, U, U, U, U, U, U, U, U, U, U, U, U], [], h, none⟩ (bodyQ Tryz.prog T0 [(2, none)] R X)) :
 Runs Tryz.prog T0 (.fn 168) [v0] h R X := Runs.fn zwQ_t rfl k
abbrev fn_zcbQ : FuncId := 169
def zcbQ_c : ACode :=
 (.seq (.region [
 o1 1 (.box 25 (tm 0)),
 o1 2 (.mov (.const (.bool false)))]) (.seq (.region [
 o1 3 (.fieldAddr 1 (tm 1)),
 o1 4 (.load none (tm 3)),
 o1 5 (.bin .geq (so (.binOp .geq 3 (tm 4) (.const (.int .i64 1)) 3) 4) (tm 4) (.const (.int .i64 1))),
 o1 6 (.mov (tm 5)),
 o4 7 (.fieldAddr 1 (tm 1)) 6,
 o4 8 (.load none (tm 7)) 6,
 o4 9 (.bin .leq (so (.binOp .leq 3 (tm 8) (.const (.int .i64 1073741824)) 3) 4) (tm 8) (.const (.int .i64 1073741824))) 6,
 o1 10 (.pick (tm 6) (tm 9) (.const (.bool false))),
 o1 2 (.mov (tm 10))]) .ret))
def zcbQ : AFunc := ⟨11, [(2, none)], zcbQ_c, none⟩
theorem zcbQ_t0 : tableOf Tryz.prog 169 = some zcbQ := by kernel_rfl
theorem zcbQ_t : T0 169 = some zcbQ := withKept_t rfl (withTrue_t rfl zcbQ_t0)
theorem zcbQ_runs {v0 : Value} {h : Heap} {R : RP} {X : XP} (k : RunC Tryz.prog T0 zcbQ_c ⟨[v0, U, U, U, U, U, U, U, U, U, U], [], h, none⟩ (bodyQ Tryz.prog T0 [(2, none)] R X)) :
 Runs Tryz.prog T0 (.fn 169) [v0] h R X := Runs.fn zcbQ_t rfl k
abbrev fn_zdbQ : FuncId := 170
def zdbQ_c : ACode :=
 (.seq (.region [
 o1 1 (.box 25 (tm 0)),
 o1 2 (.mov (.const (.bool false)))]) (.seq (.region [
 o1 3 (.fieldAddr 2 (tm 1)),
 o1 4 (.load none (tm 3)),
 o1 5 (.bin .geq (so (.binOp .geq 3 (tm 4) k0 3) 4) (tm 4) k0),
 o1 6 (.mov (tm 5)),
 o4 7 (.fieldAddr 2 (tm 1)) 6,
 o4 8 (.load none (tm 7)) 6,
 o4 9 (.bin .leq (so (.binOp .leq 3 (tm 8) (.const (.int .i64 1099511627776)) 3) 4) (tm 8) (.const (.int .i64 1099511627776))) 6,
 o1 10 (.pick (tm 6) (tm 9) (.const (.bool false))),
 o1 2 (.mov (tm 10))]) .ret))
def zdbQ : AFunc := ⟨11, [(2, none)], zdbQ_c, none⟩
theorem zdbQ_t0 : tableOf Tryz.prog 170 = some zdbQ := by kernel_rfl
theorem zdbQ_t : T0 170 = some zdbQ := withKept_t rfl (withTrue_t rfl zdbQ_t0)
theorem zdbQ_runs {v0 : Value} {h : Heap} {R : RP} {X : XP} (k : RunC Tryz.prog T0 zdbQ_c ⟨[v0, U, U, U, U, U, U, U, U, U, U], [], h, none⟩ (bodyQ Tryz.prog T0 [(2, none)] R X)) :
 Runs Tryz.prog T0 (.fn 170) [v0] h R X := Runs.fn zdbQ_t rfl k
abbrev fn_ztQ : FuncId := 171
def ztQ_c : ACode :=
 (.seq (.region [
 o1 2 (.box 109 (tm 0)),
 o1 3 (.mov k0)]) (.seq (.block 0 (.seq (.region [
 o1 5 (.fieldAddr 0 (tm 2)),
 o1 6 (.load none (tm 5)),
 o1 7 (.bin .lss (so (.binOp .lss 3 (tm 6) k0 3) 4) (tm 6) k0),
 o1 8 (.mov (tm 7)),
 o5 9 (.fieldAddr 0 (tm 2)) 8,
 o5 10 (.load none (tm 9)) 8,
 o5 11 (.bin .geq (so (.binOp .geq 3 (tm 10) (.const (.int .i64 64)) 3) 4) (tm 10) (.const (.int .i64 64))) 8,
 o1 12 (.pick (tm 8) (.const (.bool true)) (tm 11)),
 o1 4 (.mov (tm 12))]) (.cond (tm 4)
 (.seq (.region [
 o1 3 (.mov (.const (.int .i64 3)))]) .ret)
 (.seq (.region [
 o1 14 (.fieldAddr 0 (tm 2)),
 o1 15 (.load none (tm 14)),
 o1 16 (.load none (tm 1)),
 o1 17 (.bin .leq (so (.binOp .leq 3 (tm 15) (tm 16) 3) 4) (tm 15) (tm 16)),
 o1 13 (.mov (tm 17))]) (.cond (tm 13)
 (.seq (.region [
 o1 3 (.mov (.const (.int .i64 9)))]) .ret)
 .skip))))) (.seq (.region [
 o1 18 (.fieldAddr 0 (tm 2)),
 o1 19 (.load none (tm 18)),
 o3 (.store 1 (tm 1) (tm 19))]) (.seq (.region [
 o1 3 (.mov k0)]) .ret))))
def ztQ : AFunc := ⟨20, [(3, none)], ztQ_c, none⟩
theorem ztQ_t0 : tableOf Tryz.prog 171 = some ztQ := by kernel_rfl
theorem ztQ_t : T0 171 = some ztQ := withKept_t rfl (withTrue_t rfl ztQ_t0)
theorem ztQ_runs {v0 v1 : Value} {h : Heap} {R : RP} {X : XP} (k : RunC Tryz.prog T0 ztQ_c ⟨[v0, v1, U, U, U, U, U, U, U, U, U, U, U, U, U, U, U, U, U, U], [], h, none⟩ (bodyQ Tryz.prog T0 [(3, none)] R X)) :
 Runs Tryz.prog T0 (.fn 171) [v0, v1] h R X := Runs.fn ztQ_t rfl k
abbrev fn_zxQ : FuncId := 178
def zxQ_l0 : ACode :=
 (.seq (.region [
 o1 9 (.nextStr (tm 8)),
 o1 10 (.extract 0 (tm 9))]) (.seq (.cond (tm 10)
 .skip
 (.exit 0)) (.block 1 (.seq (.region [
 o1 11 (.extract 2 (tm 9)),
 o1 6 (.mov (tm 11))]) (.seq (.region [
 o1 12 (.mov (tm 1)),
 o1 13 (.mov (tm 6)),
 o1 14 (.callV (tm 12) [(tm 13)]),
 o1 15 (.raw (so (.unOp .not 4 (tm 14)) 4))]) (.cond (tm 15)
 (.seq (.region [
 o1 4 (.mov (.const (.bool false)))]) .ret)
 .skip))))))
def zxQ_c : ACode :=
 (.seq (.region [
 o1 4 (.mov (.const (.bool false)))]) (.seq (.seq (.region [
 o1 7 (.mov (tm 0)),
 o1 8 (.rangeStr (tm 7))]) (.block 0 (.loop zxQ_l0))) (.seq (.region [
 o1 4 (.mov (.const (.bool true)))]) .ret)))
def zxQ : AFunc := ⟨16, [(4, none)], zxQ_c, none⟩
theorem zxQ_t0 : tableOf Tryz.prog 178 = some zxQ := by kernel_rfl
theorem zxQ_t : T0 178 = some zxQ := withKept_t rfl (withTrue_t rfl zxQ_t0)
theorem zxQ_runs {v0 v1 : Value} {h : Heap} {R : RP} {X : XP} (k : RunC Tryz.prog T0 zxQ_c ⟨[v0, v1, U, U, U, U, U, U, U, U, U, U, U, U, U, U], [], h, none⟩ (bodyQ Tryz.prog T0 [(4, none)] R X)) :
 Runs Tryz.prog T0 (.fn 178) [v0, v1] h R X := Runs.fn zxQ_t rfl k
def zxQ_l0_J (f0 f1 f2 f3 f5 f7 f8 : Value) (ds : List Deferred) (rd : Option Nat) (I : Nat → Heap → Prop) (m : Nat) (s : St) : Prop := ∃ h : Heap, ∃ (x4 x6 x9 x10 x11 x12 x13 x14 x15 : Value), s = ⟨[f0, f1, f2, f3, x4, f5, x6, f7, f8, x9, x10, x11, x12, x13, x14, x15], ds, h, rd⟩ ∧ I m  h
theorem zxQ_l0_rule {f0 f1 f2 f3 f5 f7 f8 : Value} {ds : List Deferred} {rd : Option Nat} {Q : QP} (I : Nat → Heap → Prop) (hb : ∀ (m : Nat) (h : Heap) (x4 x6 x9 x10 x11 x12 x13 x14 x15 : Value) , I m  h → RunC Tryz.prog T0 zxQ_l0 ⟨[f0, f1, f2, f3, x4, f5, x6, f7, f8, x9, x10, x11, x12, x13, x14, x15], ds, h, rd⟩ (loopQ (zxQ_l0_J f0 f1 f2 f3 f5 f7 f8 ds rd I) m Q))
 (m : Nat) {v : Value} {h : Heap} {x4 x6 x9 x10 x11 x12 x13 x14 x15 : Value} (hi : I m  h) : RunC Tryz.prog T0 (.loop zxQ_l0) ⟨[f0, f1, f2, f3, x4, f5, x6, f7, f8, x9, x10, x11, x12, x13, x14, x15], ds, h, rd⟩ Q :=
 RunC.loopJ (zxQ_l0_J f0 f1 f2 f3 f5 f7 f8 ds rd I) (fun m s hj => by obtain ⟨h, x4, x6, x9, x10, x11, x12, x13, x14, x15, rfl, hi⟩ := hj; exact hb m  h x4 x6 x9 x10 x11 x12 x13 x14 x15 hi) m _ ⟨h, _, _, _, _, _, _, _, _, _, rfl, hi⟩
theorem zxQ_l0_again {f0 f1 f2 f3 f5 f7 f8 : Value} {ds : List Deferred} {rd : Option Nat} {Q : QP} {I : Nat → Heap → Prop} {m : Nat} (m' : Nat) {v : Value} {h : Heap} {x4 x6 x9 x10 x11 x12 x13 x14 x15 : Value} (hm : m' < m) (hi : I m'  h) : loopQ (zxQ_l0_J f0 f1 f2 f3 f5 f7 f8 ds rd I) m Q .normal ⟨[f0, f1, f2, f3, x4, f5, x6, f7, f8, x9, x10, x11, x12, x13, x14, x15], ds, h, rd⟩ :=
 loopQ.again m' hm ⟨h, _, _, _, _, _, _, _, _, _, rfl, hi⟩
abbrev fn_zzQ : FuncId := 179
def zzQ_c : ACode :=
 (.seq (.region [
 o1 2 (.mov (.const (.bool false)))]) (.seq (.region [
 o1 3 (.mov (tm 0)),
 o1 4 (.bin .geq (so (.binOp .geq 21 (tm 3) (.const (.int .i32 97)) 21) 4) (tm 3) (.const (.int .i32 97))),
 o1 5 (.mov (tm 4)),
 o4 6 (.mov (tm 0)) 5,
 o4 7 (.bin .leq (so (.binOp .leq 21 (tm 6) (.const (.int .i32 122)) 21) 4) (tm 6) (.const (.int .i32 122))) 5,
 o1 8 (.pick (tm 5) (tm 7) (.const (.bool false))),
 o1 9 (.mov (tm 8)),
 o5 10 (.mov (tm 0)) 9,
 o5 11 (.bin .geq (so (.binOp .geq 21 (tm 10) (.const (.int .i32 48)) 21) 4) (tm 10) (.const (.int .i32 48))) 9,
 o5 12 (.mov (tm 11)) 9,
 o4 13 (.mov (tm 0)) 12,
 o4 14 (.bin .leq (so (.binOp .leq 21 (tm 13) (.const (.int .i32 57)) 21) 4) (tm 13) (.const (.int .i32 57))) 12,
 o5 15 (.pick (tm 12) (tm 14) (.const (.bool false))) 9,
 o1 16 (.pick (tm 9) (.const (.bool true)) (tm 15)),
 o1 17 (.mov (tm 16)),
 o5 18 (.mov (tm 0)) 17,
 o5 19 (.bin .eql (so (.binOp .eql 21 (tm 18) (.const (.int .i32 45)) 21) 4) (tm 18) (.const (.int .i32 45))) 17,
 o1 20 (.pick (tm 17) (.const (.bool true)) (tm 19)),
 o1 2 (.mov (tm 20))]) .ret))
def zzQ : AFunc := ⟨21, [(2, none)], zzQ_c, none⟩
theorem zzQ_t0 : tableOf Tryz.prog 179 = some zzQ := by kernel_rfl
theorem zzQ_t : T0 179 = some zzQ := withKept_t rfl (withTrue_t rfl zzQ_t0)
theorem zzQ_runs {v0 : Value} {h : Heap} {R : RP} {X : XP} (k : RunC Tryz.prog T0 zzQ_c ⟨[v0, U, U, U, U, U, U, U, U, U, U, U, U, U, U, U, U, U, U, U, U], [], h, none⟩ (bodyQ Tryz.prog T0 [(2, none)] R X)) :
 Runs Tryz.prog T0 (.fn 179) [v0] h R X := Runs.fn zzQ_t rfl k
end Go.Proofs.YtbmpalbdbcjieaaGreat.A

namespace Go.Proofs.YtbmpalbdbcjieaaGreat.A
open Go Go.Vm
set_option maxRecDepth 10000
set_option linter.unusedVariables false
theorem big_ok {h : Heap} {v : Value} {l : List UInt8} (hr : Rd h 1 v (bcells l) l.length) (hl : l.length ≤ 8) :
    Runs Tryz.prog T0 (.fn fn_zmdQ) [v] h (fun r h' => r = .int .u64 (bigN l) ∧ h' = h) (fun _ _ => False) := by
  obtain ⟨a, cap, rfl, hlen, hc⟩ := hr
  refine zmdQ_runs ?_
  refine stpDP ?_
  refine zmdQ_l0_rule (fun m v2 v7 h' => ∃ k : Nat, k ≤ l.length ∧ m = l.length - k ∧ v7 = .int .i64 k ∧ v2 = .int .u64 (bigN (l.take k)) ∧ h' = h) ?_ l.length ⟨0, by omega, rfl, rfl, rfl, rfl⟩
  rintro m v2 v7 h' x4 x8 x9 x10 x11 x12 x13 x14 x15 x16 ⟨k, hk, rfl, rfl, rfl, rfl⟩
  refine stpDP ?_
  refine C.if (fun hlt => ?_) (fun hge => ?_)
  · obtain ⟨b, o, sp, rfl, hb, hcc⟩ := hc (by omega)
    rw [Nat.mul_one] at hcc
    haveI := byte_cell (k := k) hcc (by omega)
    have h8 := bigN_take_lt (l := l) (k := k) (by omega)
    have hbt := (l.getD k 0).toNat_lt
    have hs := bigN_take (l := l) (k := k) (by omega)
    refine stpDP ?_
    refine O.how (XOp.shl8 ⟨by omega, by omega⟩) ?_
    refine stpDP ?_
    refine O.how (XOp.orByte (by omega) (by omega)) ?_
    refine stpDP ?_
    refine zmdQ_l0_again (l.length - (k + 1)) (by omega) ⟨k + 1, by omega, rfl, rfl, by rw [hs], rfl⟩
  · obtain rfl : k = l.length := by omega
    refine stpDP ?_
    rw [List.take_length]
    exact ⟨rfl, rfl⟩
end Go.Proofs.YtbmpalbdbcjieaaGreat.A

namespace Go.Proofs.YtbmpalbdbcjieaaGreat.A
open Go Go.Vm
set_option maxRecDepth 10000
set_option linter.unusedVariables false
def thrown (e a : Int) : List PanicEntry := [{ v := .iface ty_wire_wrong (.agg ⟨[.int .i64 e, .int .i64 a]⟩), recovered := false }]
theorem must_yes {h : Heap} {e a : Int} : Runs Tryz.prog T0 (.fn fn_zndQ) [.bool true, .int .i64 e, .int .i64 a] h (fun r h' => h' = h) (fun _ _ => False) := by
  refine zndQ_runs ?_
  refine stp ?_
  rfl
theorem must_no {h : Heap} {e a : Int} : Runs Tryz.prog T0 (.fn fn_zndQ) [.bool false, .int .i64 e, .int .i64 a] h (fun r h' => False) (fun c h' => c = thrown e a ∧ h' = h) := by
  refine zndQ_runs ?_
  refine stp ?_
  exact ⟨rfl, rfl⟩
theorem must_ok {h : Heap} {b : Bool} {e a : Int} : Runs Tryz.prog T0 (.fn fn_zndQ) [.bool b, .int .i64 e, .int .i64 a] h (fun r h' => b = true ∧ h' = h) (fun c h' => b = false ∧ c = thrown e a ∧ h' = h) := by
  cases b with
  | true => exact must_yes.mono (fun _ _ h => ⟨rfl, h⟩) (fun _ _ h => h.elim)
  | false => exact must_no.mono (fun _ _ h => h.elim) (fun _ _ h => ⟨rfl, h⟩)
structure PR (h : Heap) (p : Nat) (sv : Value) (bs : List UInt8) (pl : Nat) (e fa : Int) : Prop where
  at_le : pl ≤ bs.length
  small : bs.length < 1048576
  lt : p < h.n
  get : h.get p = .cells [sv, .int .i64 pl, .int .i64 e, .int .i64 fa, .bool true] 0
  own : Own h 1 sv (bcells bs) bs.length
  apart : ¬ ownedBy sv p
theorem PR.keep {S : Nat → Prop} {h h' : Heap} {p : Nat} {sv : Value} {bs : List UInt8} {pl : Nat} {e fa : Int} (hp : PR h p sv bs pl e fa) (hf : Fr S h h') (hs : ¬ S p) (hb : ∀ i, ownedBy sv i → ¬ S i) : PR h' p sv bs pl e fa :=
  ⟨hp.at_le, hp.small, hf.lt hp.lt, by rw [hf.get p hp.lt hs, hp.get], hp.own.keep hf hb, hp.apart⟩
theorem PR.none {h h' : Heap} {p : Nat} {sv : Value} {bs : List UInt8} {pl : Nat} {e fa : Int} (hp : PR h p sv bs pl e fa) (hf : Fr (fun _ => False) h h') : PR h' p sv bs pl e fa := hp.keep hf id fun _ _ => id
theorem PR.turn {h : Heap} {p : Nat} {sv : Value} {bs : List UInt8} {pl pl' : Nat} {e fa e' fa' : Int} (hp : PR h p sv bs pl e fa) (hl : pl' ≤ bs.length) :
    PR (h.set p (.cells [sv, .int .i64 pl', .int .i64 e', .int .i64 fa', .bool true] 0)) p sv bs pl' e' fa' :=
  ⟨hl, hp.small, by simpa using hp.lt, by rw [Heap.get_set, if_pos rfl], hp.own.keep (S := fun i => i = p) (Fr.refl.set fun _ => rfl) fun b hb hbp => hp.apart (hbp ▸ hb), hp.apart⟩
theorem takeU64_ok {h : Heap} {p : Nat} {sv : Value} {bs : List UInt8} {pl n : Nat} {fa a0 : Int} {fid : FuncId} {first captured : List Value} {R : RP} (hr : PR h p sv bs pl 0 fa) (hn : n < 1048576)
    (hm : ∀ h1 v, Fr (fun i => i = p) h h1 → PR h1 p sv bs (pl + n) 0 fa → pl + n ≤ bs.length → (∀ i, blockOf v i → ownedBy sv i) → Rd h1 1 v (bcells ((bs.drop pl).take n)) n → Runs Tryz.prog T0 (.fn fid) (first ++ [v] ++ captured) h1 R (fun _ _ => False)) :
    Runs Tryz.prog T0 (.fn fn_zwdQ) [.pointer (some ⟨p, 0, none⟩), .int .i64 n, .int .i64 a0, .func (.func fid) ⟨first⟩ ⟨captured⟩] h R (fun c h' => bs.length < pl + n ∧ c = thrown 6 a0 ∧ h' = h) := by
  have hr' := hr
  obtain ⟨hle, hsm, hp, hget, hown, hnot⟩ := hr
  obtain ⟨a, cap, rfl, hlen, _⟩ := hown.rd
  haveI : HGet h p _ := ⟨hget⟩
  refine zwdQ_runs ?_
  refine stp ?_
  refine D.callX must_ok (fun v h' hv => rfl) (fun v h' hv => ?_) (fun c h' hx => ⟨rfl, ?_⟩)
  · obtain ⟨hle2, rfl⟩ := hv
    have hle2 : (n : Int) ≤ bs.length - pl := of_decide_eq_true hle2
    refine stp ?_
    have hp2 := hr'.turn (pl' := pl + n) (e' := 0) (fa' := fa) (by omega)
    refine D.slice pl (pl + n) (by omega) hp2.own (by omega) (by omega) (by omega) (by omega) (fun v' hbl hrd => ?_)
    rw [Nat.mul_one, Nat.mul_one, bcells_drop, bcells_take, Nat.add_sub_cancel_left] at hrd
    refine D.callX (hm _ v' (Fr.refl.set fun _ => rfl) hp2 (by omega) hbl hrd) (fun _ _ _ => rfl) (fun r h2 hr => ?_) (fun _ _ hx => hx.elim)
    refine stp ?_
    exact hr
  · obtain ⟨hlt, rfl, rfl⟩ := hx
    have hlt : ¬ (n : Int) ≤ bs.length - pl := of_decide_eq_false hlt
    refine stp ?_
    exact ⟨by omega, rfl, rfl⟩
end Go.Proofs.YtbmpalbdbcjieaaGreat.A

namespace Go.Proofs.YtbmpalbdbcjieaaGreat.A
open Go Go.Vm
set_option maxRecDepth 10000
set_option linter.unusedVariables false
def numS (bs : List UInt8) (pl : Nat) : Except Int (Nat × Nat) :=
  if bs.length < pl + 1 then .error 6 else
  if 8 < (bs.getD pl 0).toNat then .error 5 else
  if bs.length < pl + 1 + (bs.getD pl 0).toNat then .error 6 else
  if (0 < (bs.getD pl 0).toNat ∧ (((bs.drop (pl + 1)).take (bs.getD pl 0).toNat).getD 0 0).toNat = 0) ∨ 9223372036854775807 < bigN ((bs.drop (pl + 1)).take (bs.getD pl 0).toNat) then .error 5
  else .ok (bigN ((bs.drop (pl + 1)).take (bs.getD pl 0).toNat), pl + 1 + (bs.getD pl 0).toNat)
theorem num1_ok {h : Heap} {v : Value} {l : List UInt8} {a b : Nat} {k : Nat} {x : Int} (hr : Rd h 1 v (bcells l) l.length) (hl : l.length ≤ 8) (hk : k = l.length) [ha : HGet h a (.cells [.int .i64 k] 0)] [hb : HGet h b (.cells [.int .u8 x] 0)] (hv : ∀ i, blockOf v i → i ≠ b) :
    Runs Tryz.prog T0 (.fn fn_zldQ) [v, .pointer (some ⟨a, 0, none⟩), .pointer (some ⟨b, 0, none⟩)] h
      (fun r h' => r = .int .u64 (bigN l) ∧ h' = if 0 < k then h.set b (.cells [.int .u8 (l.getD 0 0).toNat] 0) else h) (fun _ _ => False) := by
  have hr' := hr
  obtain ⟨ad, cap, rfl, hlen, hc⟩ := hr
  refine zldQ_runs ?_
  refine stp ?_
  refine C.if (fun hpos => ?_) (fun hz => ?_)
  · obtain ⟨q, o, sp, rfl, hq, hcc⟩ := hc (by omega)
    rw [Nat.mul_one] at hcc
    haveI := byte_cell (k := 0) hcc (by omega)
    refine stp ?_
    refine O.call' (big_ok (l := l) (hr'.keep (S := fun i => i = b) (h' := h.set b (.cells [.int .u8 (l.getD 0 0).toNat] 0)) (Fr.refl.set fun _ => rfl) hv) hl) (fun r h' hr => ?_)
    obtain ⟨rfl, rfl⟩ := hr
    refine stp ?_
    rw [if_pos (by omega)]
    exact ⟨rfl, rfl⟩
  · refine stp ?_
    refine O.call' (big_ok (l := l) hr' hl) (fun r h' hr => ?_)
    obtain ⟨rfl, rfl⟩ := hr
    refine stp ?_
    rw [if_neg (by omega)]
    exact ⟨rfl, rfl⟩
theorem num_ok {h : Heap} {p : Nat} {sv : Value} {bs : List UInt8} {pl : Nat} {fa : Int} (hr : PR h p sv bs pl 0 fa) :
    Runs Tryz.prog T0 (.fn fn_zkdQ) [.pointer (some ⟨p, 0, none⟩), .int .i64 pl] h
      (fun r h' => ∃ n pl', numS bs pl = .ok (n, pl') ∧ r = .int .i64 n ∧ PR h' p sv bs pl' 0 fa ∧ Fr (fun i => i = p) h h')
      (fun c h' => ∃ e pl', numS bs pl = .error e ∧ c = thrown e pl ∧ PR h' p sv bs pl' 0 fa ∧ Fr (fun i => i = p) h h') := by
  have hple := hr.at_le
  have hsm := hr.small
  have hbt := (bs.getD pl 0).toNat_lt
  refine zkdQ_runs ?_
  refine stp ?_
  refine O.callX (takeU64_ok (n := 1) (R := fun r h2 => r = .int .u64 (bs.getD pl 0).toNat ∧ pl + 1 ≤ bs.length ∧ PR h2 p sv bs (pl + 1) 0 fa ∧ Fr (fun i => i = p) h h2) hr (by omega) (fun h1 v hf hp1 hle hbl hrd => ?_)) (fun r h1 hr1 => ?_) (fun c h1 hx => ?_)
  · have hl1 : ((bs.drop pl).take 1).length = 1 := by simp; omega
    refine (big_ok (l := (bs.drop pl).take 1) (by rw [hl1]; exact hrd) (by omega)).imp fun r h2 hr2 => ?_
    obtain ⟨rfl, rfl⟩ := hr2
    refine ⟨?_, hle, hp1, hf⟩
    have hd : (bs.drop pl).take 1 = [bs.getD pl 0] := by
      have := take_succ_getD (l := bs.drop pl) (k := 0) (by simp; omega)
      simpa [List.getD_eq_getElem?_getD] using this
    rw [hd]
    simp [bigN]
  · obtain ⟨rfl, hle, hp1, hf1⟩ := hr1
    generalize hk : (bs.getD pl 0).toNat = k at *
    refine stp ?_
    refine O.callX must_ok (fun r h2 hr2 => ?_) (fun c h2 hx => ?_)
    · obtain ⟨hk8, rfl⟩ := hr2
      have hk8 : (k : Int) ≤ 8 := of_decide_eq_true hk8
      refine stp ?_
      have hplt := hp1.lt
      generalize hd : (bs.drop (pl + 1)).take k = d
      have hdl : pl + 1 + k ≤ bs.length → d.length = k := fun h => by rw [← hd, List.length_take, List.length_drop]; omega
      refine O.callX (takeU64_ok (n := k) (R := fun r h2 => r = .int .u64 (bigN d) ∧ pl + 1 + k ≤ bs.length ∧ PR h2 p sv bs (pl + 1 + k) 0 fa ∧ Fr (fun i => i = p) h h2 ∧
        HGet h2 (h1.push (AObj.cells [Value.int IntKind.i64 k] 0)).n (.cells [.int .u8 (if 0 < k then (d.getD 0 0).toNat else 1 : Nat)] 0)) (hp1.none Fr.refl.push.push) (by omega) (fun h2 v hf hp2 hle2 hbl hrd => ?_)) (fun r h2 hr2 => ?_) (fun c h2 hx => ?_)
      · haveI : HGet h2 h1.n _ := hf.keep (b := h1.n) (HGet.push (k := BLt.new) (g := HGet.new)) (by simp; omega) (by omega)
        haveI : HGet h2 (h1.push (AObj.cells [Value.int IntKind.i64 k] 0)).n _ := hf.keep (b := (h1.push (AObj.cells [Value.int IntKind.i64 k] 0)).n) HGet.new (by simp) (by simp; omega)
        have hnew : ∀ i, ownedBy sv i → i ≠ (h1.push (AObj.cells [Value.int IntKind.i64 k] 0)).n := fun i hi => by have := hp1.own.lt hi; simp; omega
        have hfr : Fr (fun i => i = p) h h2 := hf1.trans' (Fr.trans (S := fun i => i = p) Fr.refl.push.push hf fun i _ hi => hi)
        rw [hd] at hrd
        refine (num1_ok (a := h1.n) (b := (h1.push (AObj.cells [Value.int IntKind.i64 k] 0)).n) (k := k) (l := d) (by rw [hdl hle2]; exact hrd) (by rw [hdl hle2]; omega) (hdl hle2).symm (fun i hi => hnew i (hbl i hi))).imp fun r h3 hr3 => ?_
        obtain ⟨rfl, rfl⟩ := hr3
        by_cases hk0 : 0 < k
        · rw [if_pos hk0, if_pos hk0]
          refine ⟨rfl, hle2, hp2.keep (S := fun i => i = _) (Fr.refl.set fun _ => rfl) (by simp; omega) hnew, hfr.set fun hlt => ?_, HGet.same⟩
          have := hf1.n
          simp at hlt; omega
        · rw [if_neg hk0, if_neg hk0]
          exact ⟨rfl, hle2, hp2, hfr, inferInstance⟩
      · obtain ⟨rfl, hle2, hp2, hf2, hg2⟩ := hr2
        have hbn : bigN d < 18446744073709551616 := by
          have := bigN_lt d
          have h2 : 256 ^ d.length ≤ 256 ^ 8 := Nat.pow_le_pow_right (by omega) (by rw [hdl hle2]; omega)
          omega
        refine stp ?_
        refine O.decN (fun hne => ?_) (fun heq => ?_)
        · refine stp ?_
          have hfirst : ¬ (0 < k ∧ (d.getD 0 0).toNat = 0) := fun ⟨h1, h2⟩ => hne (by rw [if_pos h1, h2]; rfl)
          refine O.callX must_ok (fun r h3 hr3 => ?_) (fun c h3 hx => ?_)
          · obtain ⟨hmax, rfl⟩ := hr3
            have hmax : (bigN d : Int) ≤ 9223372036854775807 := of_decide_eq_true hmax
            refine stp ?_
            refine ⟨bigN d, pl + 1 + k, ?_, rfl, hp2, hf2⟩
            unfold numS
            rw [hk, hd, if_neg (by omega), if_neg (by omega), if_neg (by omega), if_neg (fun h => h.elim hfirst fun h => by omega)]
          · obtain ⟨hmax, rfl, rfl⟩ := hx
            have hmax : ¬ (bigN d : Int) ≤ 9223372036854775807 := of_decide_eq_false hmax
            refine stp ?_
            refine ⟨5, pl + 1 + k, ?_, rfl, hp2, hf2⟩
            unfold numS
            rw [hk, hd, if_neg (by omega), if_neg (by omega), if_neg (by omega), if_pos (.inr (by omega))]
        · refine stp ?_
          have hfirst : 0 < k ∧ (d.getD 0 0).toNat = 0 := by
            by_cases h0 : 0 < k
            · rw [if_pos h0] at heq; exact ⟨h0, by omega⟩
            · rw [if_neg h0] at heq; cases heq
          refine O.callX must_no (fun r h3 hr3 => hr3.elim) (fun c h3 hx => ?_)
          obtain ⟨rfl, rfl⟩ := hx
          refine stp ?_
          refine ⟨5, pl + 1 + k, ?_, rfl, hp2, hf2⟩
          unfold numS
          rw [hk, hd, if_neg (by omega), if_neg (by omega), if_neg (by omega), if_pos (.inl hfirst)]
      · obtain ⟨hlt, rfl, rfl⟩ := hx
        refine stp ?_
        refine ⟨6, pl + 1, ?_, rfl, hp1.none Fr.refl.push.push, hf1.push.push⟩
        unfold numS
        rw [hk, if_neg (by omega), if_neg (by omega), if_pos (by omega)]
    · obtain ⟨hk8, rfl, rfl⟩ := hx
      have hk8 : ¬ (k : Int) ≤ 8 := of_decide_eq_false hk8
      refine stp ?_
      refine ⟨5, pl + 1, ?_, rfl, hp1.none Fr.refl.push, hf1.push⟩
      unfold numS
      rw [hk, if_neg (by omega), if_pos (by omega)]
  · obtain ⟨hlt, rfl, rfl⟩ := hx
    refine stp ?_
    refine ⟨6, pl, ?_, rfl, hr, Fr.refl⟩
    unfold numS
    rw [if_pos (by omega)]
end Go.Proofs.YtbmpalbdbcjieaaGreat.A

namespace Go.Proofs.YtbmpalbdbcjieaaGreat.A
open Go Go.Vm
set_option maxRecDepth 10000
set_option linter.unusedVariables false
theorem caught_none {h : Heap} {v : Value} : RunDf Tryz.prog T0 fn_zjdQ [v] .returning h (fun u h' => u = .returning ∧ h' = h) (fun _ _ _ => False) := by
  refine zjdQ_df ?_
  refine dstp ?_
  exact ⟨rfl, rfl⟩
theorem caught_ok {h : Heap} {p : Nat} {sv : Value} {bs : List UInt8} {pl : Nat} {e fa x a : Int} (hr : PR h p sv bs pl e fa) :
    RunDf Tryz.prog T0 fn_zjdQ [.pointer (some ⟨p, 0, none⟩)] (.panicking (thrown x a)) h (fun u h' => settle u = .returning ∧ PR h' p sv bs pl x a ∧ Fr (fun i => i = p) h h') (fun _ _ _ => False) := by
  haveI : HGet h p _ := ⟨hr.get⟩
  haveI : BLt p h := ⟨hr.lt⟩
  refine zjdQ_df ?_
  refine dstp ?_
  exact ⟨rfl, (hr.none Fr.refl.push).turn hr.at_le, Fr.refl.push.set fun _ => rfl⟩
def readQ (h : Heap) (p : Nat) (sv : Value) (bs : List UInt8) (pl : Nat) (zero : Value) (S : Except Int (Value × Nat)) (r : Value) (h' : Heap) : Prop :=
  Fr (fun i => i = p) h h' ∧ match S with
    | .ok (v, pl') => r = v ∧ PR h' p sv bs pl' 0 0
    | .error e => r = zero ∧ ∃ pl', PR h' p sv bs pl' e pl
theorem readsInt_ok {h : Heap} {p : Nat} {sv : Value} {bs : List UInt8} {pl : Nat} {fid : FuncId} {first captured : List Value} {S : Except Int (Value × Nat)} (hr : PR h p sv bs pl 0 0)
    (hm : Runs Tryz.prog T0 (.fn fid) (first ++ [.int .i64 pl] ++ captured) h (fun r h' => ∃ v pl', S = .ok (v, pl') ∧ r = v ∧ PR h' p sv bs pl' 0 0 ∧ Fr (fun i => i = p) h h')
      (fun c h' => ∃ e pl', S = .error e ∧ c = thrown e pl ∧ PR h' p sv bs pl' 0 0 ∧ Fr (fun i => i = p) h h')) :
    Runs Tryz.prog T0 (.fn fn_zrdQ) [.pointer (some ⟨p, 0, none⟩), .func (.func fid) ⟨first⟩ ⟨captured⟩] h (readQ h p sv bs pl (.int .i64 0) S) (fun _ _ => False) := by
  haveI : HGet h p _ := ⟨hr.get⟩
  haveI : BLt p h := ⟨hr.lt⟩
  refine zrdQ_runs ?_
  refine stp ?_
  refine O.callX hm (fun r h1 hr1 => ?_) (fun c h1 hx => ?_)
  · obtain ⟨v, pl', hS, rfl, hp1, hf⟩ := hr1
    refine stp ?_
    refine caught_none.mono (fun u' h' hu => ?_) (fun _ _ _ hx => hx.elim)
    obtain ⟨rfl, rfl⟩ := hu
    refine L.nil ⟨hf, ?_⟩
    rw [hS]
    exact ⟨rfl, hp1⟩
  · obtain ⟨e, pl', hS, rfl, hp1, hf⟩ := hx
    refine stp ?_
    refine (caught_ok hp1).mono (fun u' h' hu => ?_) (fun _ _ _ hx => hx.elim)
    obtain ⟨hs, hp2, hf2⟩ := hu
    rw [hs]
    refine L.nil ⟨hf.trans' hf2, ?_⟩
    rw [hS]
    exact ⟨rfl, pl', hp2⟩
theorem readsInt_bad {h : Heap} {p : Nat} {sv : Value} {bs : List UInt8} {pl : Nat} {e fa : Int} {f : Value} (hr : PR h p sv bs pl e fa) (he : e ≠ 0) :
    Runs Tryz.prog T0 (.fn fn_zrdQ) [.pointer (some ⟨p, 0, none⟩), f] h (fun r h' => r = .int .i64 0 ∧ h' = h) (fun _ _ => False) := by
  haveI : HGet h p _ := ⟨hr.get⟩
  haveI : BLt p h := ⟨hr.lt⟩
  refine zrdQ_runs ?_
  refine stp ?_
  refine C.ifB (fun h1 => ?_) (fun h1 => ?_)
  · refine stp ?_
    exact ⟨rfl, rfl⟩
  · exfalso; simp at h1; exact he h1
theorem Num_ok {h : Heap} {p : Nat} {sv : Value} {bs : List UInt8} {pl : Nat} (hr : PR h p sv bs pl 0 0) :
    Runs Tryz.prog T0 (.fn fn_zedQ) [.pointer (some ⟨p, 0, none⟩)] h (readQ h p sv bs pl (.int .i64 0) ((numS bs pl).map fun x => (.int .i64 x.1, x.2))) (fun _ _ => False) := by
  refine zedQ_runs ?_
  refine stp ?_
  refine O.call' (readsInt_ok (S := (numS bs pl).map fun x => (.int .i64 x.1, x.2)) hr ((num_ok hr).mono (fun r h' hq => ?_) (fun c h' hq => ?_))) (fun r h' hq => ?_)
  · obtain ⟨n, pl', h1, h2, h3, h4⟩ := hq
    exact ⟨_, pl', by rw [h1]; rfl, h2, h3, h4⟩
  · obtain ⟨e, pl', h1, h2, h3, h4⟩ := hq
    exact ⟨e, pl', by rw [h1]; rfl, h2, h3, h4⟩
  · refine stp ?_
    exact hq
theorem Num_bad {h : Heap} {p : Nat} {sv : Value} {bs : List UInt8} {pl : Nat} {e fa : Int} (hr : PR h p sv bs pl e fa) (he : e ≠ 0) :
    Runs Tryz.prog T0 (.fn fn_zedQ) [.pointer (some ⟨p, 0, none⟩)] h (fun r h' => r = .int .i64 0 ∧ h' = h) (fun _ _ => False) := by
  refine zedQ_runs ?_
  refine stp ?_
  refine O.call' (readsInt_bad hr he) (fun r h' hq => ?_)
  obtain ⟨rfl, rfl⟩ := hq
  refine stp ?_
  exact ⟨rfl, rfl⟩
end Go.Proofs.YtbmpalbdbcjieaaGreat.A

namespace Go.Proofs.YtbmpalbdbcjieaaGreat.A
open Go Go.Vm
set_option maxRecDepth 10000
set_option linter.unusedVariables false
theorem End_ok {h : Heap} {p : Nat} {sv : Value} {bs : List UInt8} {pl : Nat} {e fa : Int} (hr : PR h p sv bs pl e fa) :
    Runs Tryz.prog T0 (.fn fn_zxcQ) [.pointer (some ⟨p, 0, none⟩)] h
      (fun r h' => r = .agg ⟨if e = 0 ∧ pl < bs.length then [.int .i64 4, .int .i64 pl] else [.int .i64 e, .int .i64 fa]⟩ ∧ Fr (fun _ => False) h h') (fun _ _ => False) := by
  obtain ⟨a, cap, rfl, hlen, _⟩ := hr.own.rd
  haveI : HGet h p _ := ⟨hr.get⟩
  haveI : BLt p h := ⟨hr.lt⟩
  refine zxcQ_runs ?_
  refine stp ?_
  refine D.dec (fun he => ?_) (fun he => ?_)
  · refine stp ?_
    refine C.if (fun hlt => ?_) (fun hge => ?_)
    · refine stp ?_
      rw [if_pos ⟨he, by omega⟩]
      exact ⟨rfl, Fr.refl.push⟩
    · refine stp ?_
      rw [if_neg (by omega)]
      exact ⟨rfl, Fr.refl.push⟩
  · refine stp ?_
    rw [if_neg (fun h => he h.1)]
    exact ⟨rfl, Fr.refl.push⟩
end Go.Proofs.YtbmpalbdbcjieaaGreat.A

namespace Go.Proofs.YtbmpalbdbcjieaaGreat.A
open Go Go.Vm
set_option maxRecDepth 10000
set_option linter.unusedVariables false
theorem Clone_ok {h : Heap} {v : Value} {l : List UInt8} (hr : Rd h 1 v (bcells l) l.length) (hs : l.length < 1048576) :
    Runs Tryz.prog T0 (.fn fn_zncQ) [v] h
      (fun r h' => Own h' 1 r (bcells l) l.length ∧ Fr (fun _ => False) h h' ∧ ∀ i, ownedBy r i → h.n ≤ i) (fun _ _ => False) := by
  have hnew := hr.new
  obtain ⟨a, cap, rfl, hlen, hc⟩ := hr
  refine zncQ_runs ?_
  cases a with
  | none =>
    have hl : l = [] := by
      cases l with
      | nil => rfl
      | cons b l => obtain ⟨_, _, _, h1, _⟩ := hc (by simp); cases h1
    subst hl
    refine stp ?_
    exact ⟨.none, Fr.refl, fun i hi => hi.elim⟩
  | some a =>
    refine stp ?_
    have hz : Own (h.push (.cells [] 0)) 1 (.slice (some ⟨h.n, 0, none⟩) 0 0) [] 0 := .lit (by simp) (by rw [Heap.get_push, if_pos rfl])
    have hnew' := ((Rd.keep (S := fun _ => False) ⟨some a, cap, rfl, hlen, hc⟩ (Fr.refl.push (o := .cells [] 0)) fun _ _ => id).new (size := 1)) [.int .u8 0]
    refine O.append hz hnew' hlen (bcells_one l) (by omega) (by omega) (by omega) (fun v' h' h1 h2 h3 => ?_)
    refine stp ?_
    rw [Nat.zero_add, List.nil_append] at h1
    refine ⟨h1, (Fr.refl.push (o := .cells [] 0)).trans (S := fun _ => False) h2 (fun i hi ho => ?_), fun i hi => ?_⟩
    · have : h.n = i := ho
      omega
    · rcases h3 i hi with h4 | h4
      · have : h.n = i := h4
        omega
      · simp at h4; omega
end Go.Proofs.YtbmpalbdbcjieaaGreat.A

namespace Go.Proofs.YtbmpalbdbcjieaaGreat.A
open Go Go.Vm
set_option maxRecDepth 10000
set_option linter.unusedVariables false
theorem numS_err {bs : List UInt8} {pl : Nat} {e : Int} (h : numS bs pl = .error e) : e = 5 ∨ e = 6 := by
  unfold numS at h
  split at h
  · cases h; exact .inr rfl
  · split at h
    · cases h; exact .inl rfl
    · split at h
      · cases h; exact .inr rfl
      · split at h
        · cases h; exact .inl rfl
        · cases h
theorem numS_ok {bs : List UInt8} {pl n pl' : Nat} (h : numS bs pl = .ok (n, pl')) : n ≤ 9223372036854775807 ∧ pl' ≤ bs.length ∧ pl < pl' := by
  unfold numS at h
  split at h
  · cases h
  · split at h
    · cases h
    · split at h
      · cases h
      · split at h
        · cases h
        · cases h
          refine ⟨?_, by omega, by omega⟩
          omega
def bytesS (bs : List UInt8) (most pl : Nat) : Except Int (List UInt8 × Nat) :=
  match numS bs pl with
  | .error e => .error e
  | .ok (n, pl1) => if most < n then .error 4 else if bs.length < pl1 + n then .error 6 else .ok ((bs.drop pl1).take n, pl1 + n)
def partS (k : Nat) (bs : List UInt8) (pl : Nat) : Except Int (List UInt8 × Nat) :=
  if bs.length < pl + k then .error 6 else .ok ((bs.drop pl).take k, pl + k)
structure RSt where
  pl : Nat
  e : Int
  fa : Int
structure PRs (h : Heap) (p : Nat) (sv : Value) (bs : List UInt8) (st : RSt) : Prop where
  ex : ∃ pl, (st.e = 0 → pl = st.pl ∧ st.fa = 0) ∧ PR h p sv bs pl st.e st.fa
def rd {α : Type} (S : Nat → Except Int (α × Nat)) (zero : α) (st : RSt) : α × RSt :=
  if st.e = 0 then match S st.pl with
    | .ok (a, pl) => (a, ⟨pl, 0, 0⟩)
    | .error e => (zero, ⟨0, e, st.pl⟩)
  else (zero, st)
theorem PRs.keep {S : Nat → Prop} {h h' : Heap} {p : Nat} {sv : Value} {bs : List UInt8} {st : RSt} (hp : PRs h p sv bs st) (hf : Fr S h h') (hs : ¬ S p) (hb : ∀ i, ownedBy sv i → ¬ S i) : PRs h' p sv bs st :=
  let ⟨pl, h1, h2⟩ := hp.ex
  ⟨pl, h1, h2.keep hf hs hb⟩
theorem PRs.none {h h' : Heap} {p : Nat} {sv : Value} {bs : List UInt8} {st : RSt} (hp : PRs h p sv bs st) (hf : Fr (fun _ => False) h h') : PRs h' p sv bs st := hp.keep hf id fun _ _ => id
theorem PRs.lt {h : Heap} {p : Nat} {sv : Value} {bs : List UInt8} {st : RSt} (hp : PRs h p sv bs st) : p < h.n := let ⟨_, _, h2⟩ := hp.ex; h2.lt
theorem PRs.small {h : Heap} {p : Nat} {sv : Value} {bs : List UInt8} {st : RSt} (hp : PRs h p sv bs st) : bs.length < 1048576 := let ⟨_, _, h2⟩ := hp.ex; h2.small
theorem PRs.le {h : Heap} {p : Nat} {sv : Value} {bs : List UInt8} {st : RSt} (hp : PRs h p sv bs st) (he : st.e = 0) : st.pl ≤ bs.length := let ⟨_, h1, h2⟩ := hp.ex; (h1 he).1 ▸ h2.at_le
theorem PRs.mk' {h : Heap} {p : Nat} {sv : Value} {bs : List UInt8} {pl : Nat} (hp : PR h p sv bs pl 0 0) : PRs h p sv bs ⟨pl, 0, 0⟩ := ⟨pl, fun _ => ⟨rfl, rfl⟩, hp⟩
def Reads {α : Type} (h : Heap) (p : Nat) (sv : Value) (bs : List UInt8) (x : α × RSt) (V : α → Value → Heap → Prop) (r : Value) (h' : Heap) : Prop :=
  Fr (fun i => i = p) h h' ∧ V x.1 r h' ∧ PRs h' p sv bs x.2
theorem rd_ok {α : Type} {h h' : Heap} {p : Nat} {sv : Value} {bs : List UInt8} {pl pl' : Nat} {S : Nat → Except Int (α × Nat)} {zero a : α} {V : α → Value → Heap → Prop} {r : Value} (hS : S pl = .ok (a, pl')) (hf : Fr (fun i => i = p) h h') (hV : V a r h') (hp : PR h' p sv bs pl' 0 0) :
    Reads h p sv bs (rd S zero ⟨pl, 0, 0⟩) V r h' := by
  unfold rd
  rw [if_pos rfl]
  simp only [hS]
  exact ⟨hf, hV, .mk' hp⟩
theorem rd_err {α : Type} {h h' : Heap} {p : Nat} {sv : Value} {bs : List UInt8} {pl pl' : Nat} {e : Int} {S : Nat → Except Int (α × Nat)} {zero : α} {V : α → Value → Heap → Prop} {r : Value} (hS : S pl = .error e) (he : e ≠ 0) (hf : Fr (fun i => i = p) h h') (hV : V zero r h') (hp : PR h' p sv bs pl' e pl) :
    Reads h p sv bs (rd S zero ⟨pl, 0, 0⟩) V r h' := by
  unfold rd
  rw [if_pos rfl]
  simp only [hS]
  exact ⟨hf, hV, ⟨pl', fun h0 => absurd h0 he, hp⟩⟩
theorem rd_bad {α : Type} {h h' : Heap} {p : Nat} {sv : Value} {bs : List UInt8} {st : RSt} {S : Nat → Except Int (α × Nat)} {zero : α} {V : α → Value → Heap → Prop} {r : Value} (he : st.e ≠ 0) (hf : Fr (fun i => i = p) h h') (hV : V zero r h') (hp : PRs h' p sv bs st) :
    Reads h p sv bs (rd S zero st) V r h' := by
  unfold rd
  rw [if_neg he]
  exact ⟨hf, hV, hp⟩
theorem Num_run {h : Heap} {p : Nat} {sv : Value} {bs : List UInt8} {st : RSt} (hp : PRs h p sv bs st) :
    Runs Tryz.prog T0 (.fn fn_zedQ) [.pointer (some ⟨p, 0, none⟩)] h (Reads h p sv bs (rd (numS bs) 0 st) fun a r _ => r = .int .i64 (a : Nat)) (fun _ _ => False) := by
  obtain ⟨st1, e, fa⟩ := st
  obtain ⟨pl, h1, h2⟩ := hp.ex
  by_cases he : e = 0
  · subst he
    obtain ⟨rfl, h3⟩ := h1 rfl
    have h3 : fa = 0 := h3
    subst h3
    refine (Num_ok h2).imp fun r h' ⟨hf, hq⟩ => ?_
    cases hS : numS bs pl with
    | ok x =>
      rw [hS] at hq
      exact rd_ok hS hf hq.1 hq.2
    | error e =>
      rw [hS] at hq
      obtain ⟨hz, pl', hp'⟩ := hq
      exact rd_err hS (by rcases numS_err hS with rfl | rfl <;> omega) hf hz hp'
  · refine (Num_bad h2 he).imp fun r h' ⟨hz, hh⟩ => ?_
    subst hh
    exact rd_bad he Fr.refl hz hp
end Go.Proofs.YtbmpalbdbcjieaaGreat.A

namespace Go.Proofs.YtbmpalbdbcjieaaGreat.A
open Go Go.Vm
set_option maxRecDepth 10000
set_option linter.unusedVariables false
theorem NewReader_ok {h : Heap} {v : Value} {l : List UInt8} (hr : Rd h 1 v (bcells l) l.length) (hs : l.length < 1048576) :
    Runs Tryz.prog T0 (.fn fn_zucQ) [v] h (fun r h' => ∃ p sv, r = .pointer (some ⟨p, 0, none⟩) ∧ h.n ≤ p ∧ (∀ i, ownedBy sv i → h.n ≤ i) ∧ PRs h' p sv l ⟨0, 0, 0⟩ ∧ Fr (fun _ => False) h h') (fun _ _ => False) := by
  refine zucQ_runs ?_
  refine stp ?_
  refine O.call' (Clone_ok hr hs) (fun r h1 hq => ?_)
  obtain ⟨ho, hf, hnew⟩ := hq
  obtain ⟨a, cap, rfl, hlen, _⟩ := ho.rd
  have hn := hf.n
  refine stp ?_
  refine ⟨h1.n, _, rfl, hn, hnew, .mk' ⟨by omega, hs, by simp, by rw [Heap.get_push, if_pos rfl]; rfl, ho.keep (S := fun _ => False) Fr.refl.push fun _ _ => id, fun hi => ?_⟩, hf.push⟩
  have := ho.lt hi
  omega
def endS (bs : List UInt8) (st : RSt) : Int × Int := if st.e = 0 ∧ st.pl < bs.length then (4, st.pl) else (st.e, st.fa)
theorem End_run {h : Heap} {p : Nat} {sv : Value} {bs : List UInt8} {st : RSt} (hp : PRs h p sv bs st) :
    Runs Tryz.prog T0 (.fn fn_zxcQ) [.pointer (some ⟨p, 0, none⟩)] h (fun r h' => r = .agg ⟨[.int .i64 (endS bs st).1, .int .i64 (endS bs st).2]⟩ ∧ Fr (fun _ => False) h h') (fun _ _ => False) := by
  obtain ⟨pl, h1, h2⟩ := hp.ex
  refine (End_ok h2).imp fun r h' ⟨hr, hf⟩ => ⟨?_, hf⟩
  rw [hr]
  unfold endS
  by_cases he : st.e = 0
  · rw [(h1 he).1]
    split <;> rfl
  · rw [if_neg (fun h => he h.1), if_neg (fun h => he h.1)]
end Go.Proofs.YtbmpalbdbcjieaaGreat.A

namespace Go.Proofs.YtbmpalbdbcjieaaGreat.A
open Go Go.Vm
set_option maxRecDepth 10000
set_option linter.unusedVariables false
theorem takeB_ok {h : Heap} {p : Nat} {sv : Value} {bs : List UInt8} {pl n : Nat} {fa a0 : Int} (hr : PR h p sv bs pl 0 fa) (hn : n < 1048576) :
    Runs Tryz.prog T0 (.fn fn_ztdQ) [.pointer (some ⟨p, 0, none⟩), .int .i64 n, .int .i64 a0, .func (.func fn_zncQ) ⟨[]⟩ ⟨[]⟩] h
      (fun r h' => pl + n ≤ bs.length ∧ Own h' 1 r (bcells ((bs.drop pl).take n)) n ∧ (∀ i, ownedBy r i → h.n ≤ i) ∧ PR h' p sv bs (pl + n) 0 fa ∧ Fr (fun i => i = p) h h') (fun c h' => bs.length < pl + n ∧ c = thrown 6 a0 ∧ h' = h) := by
  have hr' := hr
  obtain ⟨hle, hsm, hp, hget, hown, hnot⟩ := hr
  obtain ⟨a, cap, rfl, hlen, _⟩ := hown.rd
  haveI : HGet h p _ := ⟨hget⟩
  refine ztdQ_runs ?_
  refine stp ?_
  refine D.callX must_ok (fun v h' hv => rfl) (fun v h' hv => ?_) (fun c h' hx => ⟨rfl, ?_⟩)
  · obtain ⟨hle2, rfl⟩ := hv
    have hle2 : (n : Int) ≤ bs.length - pl := of_decide_eq_true hle2
    refine stp ?_
    have hp2 := hr'.turn (pl' := pl + n) (e' := 0) (fa' := fa) (by omega)
    refine D.slice pl (pl + n) (by omega) hp2.own (by omega) (by omega) (by omega) (by omega) (fun v' hbl hrd => ?_)
    rw [Nat.mul_one, Nat.mul_one, bcells_drop, bcells_take, Nat.add_sub_cancel_left] at hrd
    have hl : ((bs.drop pl).take n).length = n := by rw [List.length_take, List.length_drop]; omega
    refine D.callX (Clone_ok (l := (bs.drop pl).take n) (by rw [hl]; exact hrd) (by omega)) (fun _ _ _ => rfl) (fun r h2 hr => ?_) (fun _ _ hx => hx.elim)
    obtain ⟨ho, hf, hnew⟩ := hr
    refine stp ?_
    rw [hl] at ho
    refine ⟨by omega, ho, fun i hi => ?_, hp2.none hf, Fr.trans (S := fun i => i = p) (S' := fun _ => False) (Fr.refl.set fun _ => rfl) hf fun _ _ h => h.elim⟩
    have := hnew i hi
    simpa using this
  · obtain ⟨hlt, rfl, rfl⟩ := hx
    have hlt : ¬ (n : Int) ≤ bs.length - pl := of_decide_eq_false hlt
    refine stp ?_
    exact ⟨by omega, rfl, rfl⟩
theorem Bytes1_ok {h : Heap} {p a b : Nat} {sv : Value} {bs : List UInt8} {pl most : Nat} (hr : PR h p sv bs pl 0 0) (hm : most < 1048576) [ha : HGet h a (.cells [.pointer (some ⟨p, 0, none⟩)] 0)] [hb : HGet h b (.cells [.int .i64 most] 0)] (ha' : a < h.n) (hb' : b < h.n) (hap : a ≠ p) (hbp : b ≠ p) :
    Runs Tryz.prog T0 (.fn fn_zwcQ) [.int .i64 pl, .pointer (some ⟨a, 0, none⟩), .pointer (some ⟨b, 0, none⟩)] h
      (fun r h' => ∃ l pl', bytesS bs most pl = .ok (l, pl') ∧ (Own h' 1 r (bcells l) l.length ∧ (∀ i, ownedBy r i → h.n ≤ i)) ∧ PR h' p sv bs pl' 0 0 ∧ Fr (fun i => i = p) h h')
      (fun c h' => ∃ e pl', bytesS bs most pl = .error e ∧ e ≠ 0 ∧ c = thrown e pl ∧ PR h' p sv bs pl' 0 0 ∧ Fr (fun i => i = p) h h') := by
  refine zwcQ_runs ?_
  refine stp ?_
  refine O.callX (num_ok hr) (fun r h1 hr1 => ?_) (fun c h1 hx => ?_)
  · obtain ⟨n, pl1, hS, rfl, hp1, hf1⟩ := hr1
    obtain ⟨hn1, hn2, hn3⟩ := numS_ok hS
    haveI := hf1.keep ha ha' hap
    haveI := hf1.keep hb hb' hbp
    refine stp ?_
    refine O.callX must_ok (fun r h2 hr2 => ?_) (fun c h2 hx => ?_)
    · obtain ⟨hle, rfl⟩ := hr2
      have hle := of_decide_eq_true hle
      have hle : n ≤ most := by split at hle <;> omega
      refine stp ?_
      refine O.callX (takeB_ok (n := n) hp1 (by omega)) (fun r h3 hr3 => ?_) (fun c h3 hx => ?_)
      · obtain ⟨hle3, ho, hnew, hp3, hf3⟩ := hr3
        refine stp ?_
        have hl : ((bs.drop pl1).take n).length = n := by rw [List.length_take, List.length_drop]; omega
        refine ⟨_, _, ?_, ⟨by rw [hl]; exact ho, fun i hi => Nat.le_trans hf1.n (hnew i hi)⟩, hp3, hf1.trans' hf3⟩
        unfold bytesS
        rw [hS]
        simp only
        rw [if_neg (by omega), if_neg (by omega)]
      · obtain ⟨hlt, rfl, rfl⟩ := hx
        refine stp ?_
        refine ⟨6, pl1, ?_, by omega, rfl, hp1, hf1⟩
        unfold bytesS
        rw [hS]
        simp only
        rw [if_neg (by omega), if_pos (by omega)]
    · obtain ⟨hle, rfl, rfl⟩ := hx
      have hle := of_decide_eq_false hle
      have hle : most < n := by split at hle <;> omega
      refine stp ?_
      refine ⟨4, pl1, ?_, by omega, rfl, hp1, hf1⟩
      unfold bytesS
      rw [hS]
      simp only
      rw [if_pos hle]
  · obtain ⟨e, pl1, hS, rfl, hp1, hf1⟩ := hx
    refine stp ?_
    refine ⟨e, pl1, ?_, ?_, rfl, hp1, hf1⟩
    · unfold bytesS; rw [hS]
    · rcases numS_err hS with rfl | rfl <;> omega
theorem readsB_ok {h : Heap} {p : Nat} {sv : Value} {bs : List UInt8} {pl : Nat} {fid : FuncId} {first captured : List Value} {S : Nat → Except Int (List UInt8 × Nat)} (hr : PR h p sv bs pl 0 0)
    (hm : Runs Tryz.prog T0 (.fn fid) (first ++ [.int .i64 pl] ++ captured) h (fun r h' => ∃ l pl', S pl = .ok (l, pl') ∧ (Own h' 1 r (bcells l) l.length ∧ (∀ i, ownedBy r i → h.n ≤ i)) ∧ PR h' p sv bs pl' 0 0 ∧ Fr (fun i => i = p) h h')
      (fun c h' => ∃ e pl', S pl = .error e ∧ e ≠ 0 ∧ c = thrown e pl ∧ PR h' p sv bs pl' 0 0 ∧ Fr (fun i => i = p) h h')) :
    Runs Tryz.prog T0 (.fn fn_zodQ) [.pointer (some ⟨p, 0, none⟩), .func (.func fid) ⟨first⟩ ⟨captured⟩] h (Reads h p sv bs (rd S [] ⟨pl, 0, 0⟩) fun l r h' => Own h' 1 r (bcells l) l.length ∧ (∀ i, ownedBy r i → h.n ≤ i)) (fun _ _ => False) := by
  haveI : HGet h p _ := ⟨hr.get⟩
  haveI : BLt p h := ⟨hr.lt⟩
  refine zodQ_runs ?_
  refine stp ?_
  refine O.callX hm (fun r h1 hr1 => ?_) (fun c h1 hx => ?_)
  · obtain ⟨v, pl', hS, ho, hp1, hf⟩ := hr1
    refine stp ?_
    refine caught_none.mono (fun u' h' hu => ?_) (fun _ _ _ hx => hx.elim)
    obtain ⟨rfl, rfl⟩ := hu
    exact L.nil (rd_ok hS hf ho hp1)
  · obtain ⟨e, pl', hS, he, rfl, hp1, hf⟩ := hx
    refine stp ?_
    refine (caught_ok hp1).mono (fun u' h' hu => ?_) (fun _ _ _ hx => hx.elim)
    obtain ⟨hs, hp2, hf2⟩ := hu
    rw [hs]
    exact L.nil (rd_err hS he (hf.trans' hf2) ⟨.none, fun i hi => hi.elim⟩ hp2)
theorem readsB_bad {h : Heap} {p : Nat} {sv : Value} {bs : List UInt8} {pl : Nat} {e fa : Int} {f : Value} (hr : PR h p sv bs pl e fa) (he : e ≠ 0) :
    Runs Tryz.prog T0 (.fn fn_zodQ) [.pointer (some ⟨p, 0, none⟩), f] h (fun r h' => r = .slice none 0 0 ∧ h' = h) (fun _ _ => False) := by
  haveI : HGet h p _ := ⟨hr.get⟩
  haveI : BLt p h := ⟨hr.lt⟩
  refine zodQ_runs ?_
  refine stp ?_
  refine C.ifB (fun h1 => ?_) (fun h1 => ?_)
  · refine stp ?_
    exact ⟨rfl, rfl⟩
  · exfalso; simp at h1; exact he h1
theorem Bytes_run {h : Heap} {p : Nat} {sv : Value} {bs : List UInt8} {st : RSt} {most : Nat} (hp : PRs h p sv bs st) (hm : most < 1048576) :
    Runs Tryz.prog T0 (.fn fn_zvcQ) [.pointer (some ⟨p, 0, none⟩), .int .i64 most] h (Reads h p sv bs (rd (bytesS bs most) [] st) fun l r h' => Own h' 1 r (bcells l) l.length ∧ (∀ i, ownedBy r i → h.n ≤ i)) (fun _ _ => False) := by
  obtain ⟨st1, e, fa⟩ := st
  obtain ⟨pl, h1, h2⟩ := hp.ex
  have hlt := h2.lt
  refine zvcQ_runs ?_
  refine stp ?_
  have hf0 : Fr (fun i => i = p) h ((h.push (AObj.cells [Value.pointer (some ⟨p, 0, none⟩)] 0)).push (AObj.cells [Value.int .i64 most] 0)) := Fr.refl.push.push
  by_cases he : e = 0
  · subst he
    obtain ⟨rfl, h3⟩ := h1 rfl
    have h3 : fa = 0 := h3
    subst h3
    refine O.call' (readsB_ok (S := bytesS bs most) (h2.none Fr.refl.push.push) (Bytes1_ok (most := most) (h2.none Fr.refl.push.push) hm (by simp; omega) (by simp) (by omega) (by simp; omega))) (fun r h' hq => ?_)
    refine stp ?_
    exact ⟨hf0.trans' hq.1, ⟨hq.2.1.1, fun i hi => by have := hq.2.1.2 i hi; simp at this; omega⟩, hq.2.2⟩
  · refine O.call' (readsB_bad (h2.none Fr.refl.push.push) he) (fun r h' hq => ?_)
    obtain ⟨rfl, rfl⟩ := hq
    refine stp ?_
    exact rd_bad he hf0 ⟨.none, fun i hi => hi.elim⟩ (hp.none Fr.refl.push.push)
theorem Text_run {h : Heap} {p : Nat} {sv : Value} {bs : List UInt8} {st : RSt} {most : Nat} (hp : PRs h p sv bs st) (hm : most < 1048576) :
    Runs Tryz.prog T0 (.fn fn_zgdQ) [.pointer (some ⟨p, 0, none⟩), .int .i64 most] h (Reads h p sv bs (rd (bytesS bs most) [] st) fun l r h' => r = .string ⟨⟨l⟩⟩) (fun _ _ => False) := by
  refine zgdQ_runs ?_
  refine stp ?_
  refine O.call' (Bytes_run hp hm) (fun r h' hq => ?_)
  obtain ⟨hf, ho, hp'⟩ := hq
  refine O.how (XOp.mkStr ho.1.rd) ?_
  refine stp ?_
  exact ⟨hf, rfl, hp'⟩
end Go.Proofs.YtbmpalbdbcjieaaGreat.A

namespace Go.Proofs.YtbmpalbdbcjieaaGreat.A
open Go Go.Vm
set_option maxRecDepth 10000
set_option linter.unusedVariables false
theorem l32 {l : List UInt8} (h : l.length = 32) : L32 (bcells l) := ⟨by simpa [bcells] using h⟩
theorem Hash11_ok {h : Heap} {v : Value} {l : List UInt8} (hr : Rd h 1 v (bcells l) l.length) (hl : l.length = 32) :
    Runs Tryz.prog T0 (.fn fn_zadQ) [v] h (fun r h' => r = .agg ⟨bcells l⟩ ∧ Fr (fun _ => False) h h') (fun _ _ => False) := by
  obtain ⟨a, cap, rfl, hlen, hc⟩ := hr
  obtain ⟨b, o, sp, rfl, hb, hcc⟩ := hc (by omega)
  rw [Nat.mul_one, hl] at hcc
  haveI := l32 hl
  refine zadQ_runs ?_
  refine stp ?_
  refine O.how (XOp.mkArrayAt (by omega)) ?_
  haveI : Cells (h.push (.cells z32 0)) b o 32 (bcells l) := ⟨by rw [cellsAt_keep (S := fun _ => False) Fr.refl.push hb id]; exact hcc⟩
  refine stp ?_
  exact ⟨rfl, Fr.refl.push⟩
theorem takeH_ok {h : Heap} {p : Nat} {sv : Value} {bs : List UInt8} {pl : Nat} {fa a0 : Int} (hr : PR h p sv bs pl 0 fa) :
    Runs Tryz.prog T0 (.fn fn_zudQ) [.pointer (some ⟨p, 0, none⟩), .int .i64 32, .int .i64 a0, .func (.func fn_zadQ) ⟨[]⟩ ⟨[]⟩] h
      (fun r h' => pl + 32 ≤ bs.length ∧ r = .agg ⟨bcells ((bs.drop pl).take 32)⟩ ∧ PR h' p sv bs (pl + 32) 0 fa ∧ Fr (fun i => i = p) h h')
      (fun c h' => bs.length < pl + 32 ∧ c = thrown 6 a0 ∧ PR h' p sv bs pl 0 fa ∧ Fr (fun i => i = p) h h') := by
  have hr' := hr.none (Fr.refl.push (o := .cells z32 0))
  have hr0 := hr
  obtain ⟨hle, hsm, hp, hget, hown, hnot⟩ := hr
  obtain ⟨a, cap, rfl, hlen, _⟩ := hown.rd
  haveI : HGet h p _ := ⟨hget⟩
  haveI : BLt p h := ⟨hp⟩
  refine zudQ_runs ?_
  refine stp ?_
  refine D.callX must_ok (fun v h' hv => rfl) (fun v h' hv => ?_) (fun c h' hx => ⟨rfl, ?_⟩)
  · obtain ⟨hle2, rfl⟩ := hv
    have hle2 := of_decide_eq_true hle2
    refine stp ?_
    have hp2 := hr'.turn (pl' := pl + 32) (e' := 0) (fa' := fa) (by omega)
    refine D.slice pl (pl + 32) (by omega) hp2.own (by omega) (by omega) (by omega) (by omega) (fun v' hbl hrd => ?_)
    rw [Nat.mul_one, Nat.mul_one, bcells_drop, bcells_take, Nat.add_sub_cancel_left] at hrd
    have hl : ((bs.drop pl).take 32).length = 32 := by rw [List.length_take, List.length_drop]; omega
    have hf0 : Fr (fun i => i = p) h ((h.push (.cells z32 0)).set p (.cells [.slice a bs.length cap, .int .i64 ↑(pl + 32), .int .i64 0, .int .i64 fa, .bool true] 0)) := Fr.refl.push.set fun _ => rfl
    refine D.callX (Hash11_ok (l := (bs.drop pl).take 32) (by rw [hl]; exact hrd) hl) (fun _ _ _ => rfl) (fun r h2 hr => ?_) (fun _ _ hx => hx.elim)
    obtain ⟨rfl, hf⟩ := hr
    haveI := l32 hl
    haveI : HGet h2 h.n _ := hf.keep (b := h.n) (HGet.set (k := ⟨by omega⟩) (g := HGet.new)) (by simp) id
    refine stp ?_
    refine ⟨by omega, rfl, (hp2.none hf).keep (S := fun i => i = h.n) (Fr.refl.set fun _ => rfl) (by omega) fun i hi hn => ?_, ?_⟩
    · have := hown.lt hi
      omega
    · refine Fr.set (Fr.trans (S := fun i => i = p) (S' := fun _ => False) hf0 hf fun _ _ h => h.elim) fun hlt => ?_
      omega
  · obtain ⟨hlt, rfl, rfl⟩ := hx
    have hlt := of_decide_eq_false hlt
    refine stp ?_
    exact ⟨by omega, rfl, hr', Fr.refl.push⟩
theorem Hash1_ok {h : Heap} {p a : Nat} {sv : Value} {bs : List UInt8} {pl : Nat} (hr : PR h p sv bs pl 0 0) [ha : HGet h a (.cells [.pointer (some ⟨p, 0, none⟩)] 0)] (ha' : a < h.n) :
    Runs Tryz.prog T0 (.fn fn_zzcQ) [.int .i64 pl, .pointer (some ⟨a, 0, none⟩)] h
      (fun r h' => ∃ l pl', partS 32 bs pl = .ok (l, pl') ∧ (r = .agg ⟨bcells l⟩ ∧ l.length = 32) ∧ PR h' p sv bs pl' 0 0 ∧ Fr (fun i => i = p) h h')
      (fun c h' => ∃ e pl', partS 32 bs pl = .error e ∧ e ≠ 0 ∧ c = thrown e pl ∧ PR h' p sv bs pl' 0 0 ∧ Fr (fun i => i = p) h h') := by
  have hp := hr.lt
  have hr' := hr.none (Fr.refl.push (o := .cells z32 0))
  haveI : BLt a h := ⟨ha'⟩
  refine zzcQ_runs ?_
  refine stp ?_
  refine O.callX (takeH_ok hr') (fun r h1 hr1 => ?_) (fun c h1 hx => ?_)
  · obtain ⟨hle, rfl, hp1, hf1⟩ := hr1
    have hl : ((bs.drop pl).take 32).length = 32 := by rw [List.length_take, List.length_drop]; omega
    haveI := l32 hl
    haveI : HGet h1 h.n _ := hf1.keep (b := h.n) HGet.new (by simp) (by omega)
    refine stp ?_
    refine ⟨_, pl + 32, by unfold partS; rw [if_neg (by omega)], ⟨rfl, hl⟩, hp1.keep (S := fun i => i = h.n) (Fr.refl.set fun _ => rfl) (by omega) fun i hi hn => ?_, ?_⟩
    · have := hr.own.lt hi
      omega
    · exact Fr.set (Fr.trans (S := fun i => i = p) Fr.refl.push hf1 fun _ _ h => h) fun hlt => by omega
  · obtain ⟨hlt, rfl, hp1, hf1⟩ := hx
    refine stp ?_
    exact ⟨6, pl, by unfold partS; rw [if_pos (by omega)], by omega, rfl, hp1, Fr.trans (S := fun i => i = p) Fr.refl.push hf1 fun _ _ h => h⟩
theorem readsH_ok {h : Heap} {p : Nat} {sv : Value} {bs : List UInt8} {pl : Nat} {fid : FuncId} {first captured : List Value} {S : Nat → Except Int (List UInt8 × Nat)} (hr : PR h p sv bs pl 0 0)
    (hm : Runs Tryz.prog T0 (.fn fid) (first ++ [.int .i64 pl] ++ captured) (h.push (.cells z32 0)) (fun r h' => ∃ l pl', S pl = .ok (l, pl') ∧ (r = .agg ⟨bcells l⟩ ∧ l.length = 32) ∧ PR h' p sv bs pl' 0 0 ∧ Fr (fun i => i = p) (h.push (.cells z32 0)) h')
      (fun c h' => ∃ e pl', S pl = .error e ∧ e ≠ 0 ∧ c = thrown e pl ∧ PR h' p sv bs pl' 0 0 ∧ Fr (fun i => i = p) (h.push (.cells z32 0)) h')) :
    Runs Tryz.prog T0 (.fn fn_zpdQ) [.pointer (some ⟨p, 0, none⟩), .func (.func fid) ⟨first⟩ ⟨captured⟩] h (Reads h p sv bs (rd S zb32 ⟨pl, 0, 0⟩) fun l r h' => r = .agg ⟨bcells l⟩ ∧ l.length = 32) (fun _ _ => False) := by
  haveI : HGet h p _ := ⟨hr.get⟩
  haveI : BLt p h := ⟨hr.lt⟩
  have hp := hr.lt
  refine zpdQ_runs ?_
  refine stp ?_
  refine O.callX hm (fun r h1 hr1 => ?_) (fun c h1 hx => ?_)
  · obtain ⟨l, pl', hS, ⟨rfl, hl⟩, hp1, hf⟩ := hr1
    haveI := l32 hl
    haveI : HGet h1 h.n _ := hf.keep (b := h.n) HGet.new (by simp) (by omega)
    refine stp ?_
    refine caught_none.mono (fun u' h' hu => ?_) (fun _ _ _ hx => hx.elim)
    obtain ⟨rfl, rfl⟩ := hu
    refine L.nil (rd_ok hS ?_ ⟨rfl, hl⟩ (hp1.keep (S := fun i => i = h.n) (Fr.refl.set fun _ => rfl) (by omega) fun i hi hn => ?_))
    · exact Fr.set (Fr.trans (S := fun i => i = p) Fr.refl.push hf fun _ _ h => h) fun hlt => by omega
    · have := hr.own.lt hi
      omega
  · obtain ⟨e, pl', hS, he, rfl, hp1, hf⟩ := hx
    refine stp ?_
    refine (caught_ok hp1).mono (fun u' h' hu => ?_) (fun _ _ _ hx => hx.elim)
    obtain ⟨hs, hp2, hf2⟩ := hu
    rw [hs]
    haveI : HGet h' h.n _ := (hf.trans' hf2).keep (b := h.n) HGet.new (by simp) (by omega)
    exact L.nil (rd_err hS he (Fr.trans (S := fun i => i = p) Fr.refl.push (hf.trans' hf2) fun _ _ h => h) ⟨rfl, rfl⟩ hp2)
theorem readsH_bad {h : Heap} {p : Nat} {sv : Value} {bs : List UInt8} {pl : Nat} {e fa : Int} {f : Value} (hr : PR h p sv bs pl e fa) (he : e ≠ 0) :
    Runs Tryz.prog T0 (.fn fn_zpdQ) [.pointer (some ⟨p, 0, none⟩), f] h (fun r h' => r = .agg ⟨z32⟩ ∧ Fr (fun _ => False) h h') (fun _ _ => False) := by
  haveI : HGet h p _ := ⟨hr.get⟩
  haveI : BLt p h := ⟨hr.lt⟩
  refine zpdQ_runs ?_
  refine stp ?_
  refine C.ifB (fun h1 => ?_) (fun h1 => ?_)
  · refine stp ?_
    exact ⟨rfl, Fr.refl.push⟩
  · exfalso; simp at h1; exact he h1
theorem Hash_run {h : Heap} {p : Nat} {sv : Value} {bs : List UInt8} {st : RSt} (hp : PRs h p sv bs st) :
    Runs Tryz.prog T0 (.fn fn_zycQ) [.pointer (some ⟨p, 0, none⟩)] h (Reads h p sv bs (rd (partS 32 bs) zb32 st) fun l r _ => r = .agg ⟨bcells l⟩ ∧ l.length = 32) (fun _ _ => False) := by
  obtain ⟨st1, e, fa⟩ := st
  obtain ⟨pl, h1, h2⟩ := hp.ex
  have hlt := h2.lt
  refine zycQ_runs ?_
  refine stp ?_
  have hf0 : Fr (fun i => i = p) h ((h.push (AObj.cells [Value.pointer (some ⟨p, 0, none⟩)] 0)).push (AObj.cells z32 0)) := Fr.refl.push.push
  by_cases he : e = 0
  · subst he
    obtain ⟨rfl, h3⟩ := h1 rfl
    have h3 : fa = 0 := h3
    subst h3
    refine O.call' (readsH_ok (S := partS 32 bs) (h2.none Fr.refl.push.push) (Hash1_ok (h2.none Fr.refl.push.push.push) (by simp; omega))) (fun r h' hq => ?_)
    obtain ⟨hf, ⟨rfl, hl⟩, hp'⟩ := hq
    haveI := l32 hl
    haveI : HGet h' (h.push (AObj.cells [Value.pointer (some ⟨p, 0, none⟩)] 0)).n _ := hf.keep (b := (h.push (AObj.cells [Value.pointer (some ⟨p, 0, none⟩)] 0)).n) HGet.new (by simp) (by simp; omega)
    refine stp ?_
    refine ⟨Fr.set (hf0.trans' hf) fun hlt => by simp at hlt; omega, ⟨rfl, hl⟩, hp'.keep (S := fun i => i = (h.push (AObj.cells [Value.pointer (some ⟨p, 0, none⟩)] 0)).n) (Fr.refl.set fun _ => rfl) (by simp; omega) fun i hi hn => ?_⟩
    have := h2.own.lt hi
    simp at hn; omega
  · refine O.call' (readsH_bad (h2.none Fr.refl.push.push) he) (fun r h' hq => ?_)
    obtain ⟨rfl, hf⟩ := hq
    haveI : HGet h' (h.push (AObj.cells [Value.pointer (some ⟨p, 0, none⟩)] 0)).n _ := hf.keep (b := (h.push (AObj.cells [Value.pointer (some ⟨p, 0, none⟩)] 0)).n) HGet.new (by simp) id
    refine stp ?_
    refine rd_bad he (Fr.set (hf0.trans' (hf.mono fun _ _ h => h.elim)) fun hlt => by simp at hlt; omega) ⟨rfl, rfl⟩ (((hp.none Fr.refl.push.push).none hf).keep (S := fun i => i = (h.push (AObj.cells [Value.pointer (some ⟨p, 0, none⟩)] 0)).n) (Fr.refl.set fun _ => rfl) (by simp; omega) fun i hi hn => ?_)
    have := h2.own.lt hi
    simp at hn; omega
end Go.Proofs.YtbmpalbdbcjieaaGreat.A

namespace Go.Proofs.YtbmpalbdbcjieaaGreat.A
open Go Go.Vm
set_option maxRecDepth 10000
set_option linter.unusedVariables false
abbrev z4 : List Value := [.int .u8 0, .int .u8 0, .int .u8 0, .int .u8 0]
abbrev zb4 : List UInt8 := [0, 0, 0, 0]
theorem four {l : List UInt8} (h : l.length = 4) : ∃ a b c d, l = [a, b, c, d] := by
  match l, h with
  | [a, b, c, d], _ => exact ⟨a, b, c, d, rfl⟩
abbrev k4 (a b c d : UInt8) : List Value := [.int .u8 a.toNat, .int .u8 b.toNat, .int .u8 c.toNat, .int .u8 d.toNat]
theorem bcells4 (a b c d : UInt8) : bcells [a, b, c, d] = [.int .u8 a.toNat, .int .u8 b.toNat, .int .u8 c.toNat, .int .u8 d.toNat] := rfl
theorem Key11_ok {h : Heap} {v : Value} {l : List UInt8} (hr : Rd h 1 v (bcells l) l.length) (hl : l.length = 4) :
    Runs Tryz.prog T0 (.fn fn_zddQ) [v] h (fun r h' => r = .agg ⟨bcells l⟩ ∧ Fr (fun _ => False) h h') (fun _ _ => False) := by
  obtain ⟨a, cap, rfl, hlen, hc⟩ := hr
  obtain ⟨b, o, sp, rfl, hb, hcc⟩ := hc (by omega)
  rw [Nat.mul_one, hl] at hcc
  obtain ⟨a1, a2, a3, a4, rfl⟩ := four hl
  rw [bcells4] at hcc ⊢
  refine zddQ_runs ?_
  refine stp ?_
  refine O.how (XOp.mkArrayAt (by omega)) ?_
  haveI : Cells (h.push (.cells z4 0)) b o 4 [.int .u8 a1.toNat, .int .u8 a2.toNat, .int .u8 a3.toNat, .int .u8 a4.toNat] := ⟨by rw [cellsAt_keep (S := fun _ => False) Fr.refl.push hb id]; exact hcc⟩
  refine stp ?_
  exact ⟨rfl, Fr.refl.push⟩
theorem takeK_ok {h : Heap} {p : Nat} {sv : Value} {bs : List UInt8} {pl : Nat} {fa a0 : Int} (hr : PR h p sv bs pl 0 fa) :
    Runs Tryz.prog T0 (.fn fn_zvdQ) [.pointer (some ⟨p, 0, none⟩), .int .i64 4, .int .i64 a0, .func (.func fn_zddQ) ⟨[]⟩ ⟨[]⟩] h
      (fun r h' => pl + 4 ≤ bs.length ∧ r = .agg ⟨bcells ((bs.drop pl).take 4)⟩ ∧ PR h' p sv bs (pl + 4) 0 fa ∧ Fr (fun i => i = p) h h')
      (fun c h' => bs.length < pl + 4 ∧ c = thrown 6 a0 ∧ PR h' p sv bs pl 0 fa ∧ Fr (fun i => i = p) h h') := by
  have hr' := hr.none (Fr.refl.push (o := .cells z4 0))
  have hr0 := hr
  obtain ⟨hle, hsm, hp, hget, hown, hnot⟩ := hr
  obtain ⟨a, cap, rfl, hlen, _⟩ := hown.rd
  haveI : HGet h p _ := ⟨hget⟩
  haveI : BLt p h := ⟨hp⟩
  refine zvdQ_runs ?_
  refine stp ?_
  refine D.callX must_ok (fun v h' hv => rfl) (fun v h' hv => ?_) (fun c h' hx => ⟨rfl, ?_⟩)
  · obtain ⟨hle2, rfl⟩ := hv
    have hle2 := of_decide_eq_true hle2
    refine stp ?_
    have hp2 := hr'.turn (pl' := pl + 4) (e' := 0) (fa' := fa) (by omega)
    refine D.slice pl (pl + 4) (by omega) hp2.own (by omega) (by omega) (by omega) (by omega) (fun v' hbl hrd => ?_)
    rw [Nat.mul_one, Nat.mul_one, bcells_drop, bcells_take, Nat.add_sub_cancel_left] at hrd
    have hl : ((bs.drop pl).take 4).length = 4 := by rw [List.length_take, List.length_drop]; omega
    have hf0 : Fr (fun i => i = p) h ((h.push (.cells z4 0)).set p (.cells [.slice a bs.length cap, .int .i64 ↑(pl + 4), .int .i64 0, .int .i64 fa, .bool true] 0)) := Fr.refl.push.set fun _ => rfl
    generalize hL : (bs.drop pl).take 4 = L at hl hrd ⊢
    refine D.callX (Key11_ok (l := L) (by rw [hl]; exact hrd) hl) (fun _ _ _ => rfl) (fun r h2 hr => ?_) (fun _ _ hx => hx.elim)
    obtain ⟨rfl, hf⟩ := hr
    obtain ⟨a1, a2, a3, a4, rfl⟩ := four hl
    rw [bcells4]
    haveI : HGet h2 h.n _ := hf.keep (b := h.n) (HGet.set (k := ⟨by omega⟩) (g := HGet.new)) (by simp) id
    refine stp ?_
    refine ⟨by omega, rfl, (hp2.none hf).keep (S := fun i => i = h.n) (Fr.refl.set fun _ => rfl) (by omega) fun i hi hn => ?_, ?_⟩
    · have := hown.lt hi
      omega
    · refine Fr.set (Fr.trans (S := fun i => i = p) (S' := fun _ => False) hf0 hf fun _ _ h => h.elim) fun hlt => ?_
      omega
  · obtain ⟨hlt, rfl, rfl⟩ := hx
    have hlt := of_decide_eq_false hlt
    refine stp ?_
    exact ⟨by omega, rfl, hr', Fr.refl.push⟩
theorem Key1_ok {h : Heap} {p a : Nat} {sv : Value} {bs : List UInt8} {pl : Nat} (hr : PR h p sv bs pl 0 0) [ha : HGet h a (.cells [.pointer (some ⟨p, 0, none⟩)] 0)] (ha' : a < h.n) :
    Runs Tryz.prog T0 (.fn fn_zcdQ) [.int .i64 pl, .pointer (some ⟨a, 0, none⟩)] h
      (fun r h' => ∃ l pl', partS 4 bs pl = .ok (l, pl') ∧ (r = .agg ⟨bcells l⟩ ∧ l.length = 4) ∧ PR h' p sv bs pl' 0 0 ∧ Fr (fun i => i = p) h h')
      (fun c h' => ∃ e pl', partS 4 bs pl = .error e ∧ e ≠ 0 ∧ c = thrown e pl ∧ PR h' p sv bs pl' 0 0 ∧ Fr (fun i => i = p) h h') := by
  have hp := hr.lt
  have hr' := hr.none (Fr.refl.push (o := .cells z4 0))
  haveI : BLt a h := ⟨ha'⟩
  refine zcdQ_runs ?_
  refine stp ?_
  refine O.callX (takeK_ok hr') (fun r h1 hr1 => ?_) (fun c h1 hx => ?_)
  · obtain ⟨hle, rfl, hp1, hf1⟩ := hr1
    have hl : ((bs.drop pl).take 4).length = 4 := by rw [List.length_take, List.length_drop]; omega
    generalize hL : (bs.drop pl).take 4 = L at hl ⊢
    obtain ⟨a1, a2, a3, a4, rfl⟩ := four hl
    rw [bcells4]
    haveI : HGet h1 h.n _ := hf1.keep (b := h.n) HGet.new (by simp) (by omega)
    refine stp ?_
    refine ⟨[a1, a2, a3, a4], pl + 4, by unfold partS; rw [if_neg (by omega), hL], ⟨rfl, rfl⟩, hp1.keep (S := fun i => i = h.n) (Fr.refl.set fun _ => rfl) (by omega) fun i hi hn => ?_, ?_⟩
    · have := hr.own.lt hi
      omega
    · exact Fr.set (Fr.trans (S := fun i => i = p) Fr.refl.push hf1 fun _ _ h => h) fun hlt => by omega
  · obtain ⟨hlt, rfl, hp1, hf1⟩ := hx
    refine stp ?_
    exact ⟨6, pl, by unfold partS; rw [if_pos (by omega)], by omega, rfl, hp1, Fr.trans (S := fun i => i = p) Fr.refl.push hf1 fun _ _ h => h⟩
theorem readsK_ok {h : Heap} {p : Nat} {sv : Value} {bs : List UInt8} {pl : Nat} {fid : FuncId} {first captured : List Value} {S : Nat → Except Int (List UInt8 × Nat)} (hr : PR h p sv bs pl 0 0)
    (hm : Runs Tryz.prog T0 (.fn fid) (first ++ [.int .i64 pl] ++ captured) (h.push (.cells z4 0)) (fun r h' => ∃ l pl', S pl = .ok (l, pl') ∧ (r = .agg ⟨bcells l⟩ ∧ l.length = 4) ∧ PR h' p sv bs pl' 0 0 ∧ Fr (fun i => i = p) (h.push (.cells z4 0)) h')
      (fun c h' => ∃ e pl', S pl = .error e ∧ e ≠ 0 ∧ c = thrown e pl ∧ PR h' p sv bs pl' 0 0 ∧ Fr (fun i => i = p) (h.push (.cells z4 0)) h')) :
    Runs Tryz.prog T0 (.fn fn_zqdQ) [.pointer (some ⟨p, 0, none⟩), .func (.func fid) ⟨first⟩ ⟨captured⟩] h (Reads h p sv bs (rd S zb4 ⟨pl, 0, 0⟩) fun l r h' => r = .agg ⟨bcells l⟩ ∧ l.length = 4) (fun _ _ => False) := by
  haveI : HGet h p _ := ⟨hr.get⟩
  haveI : BLt p h := ⟨hr.lt⟩
  have hp := hr.lt
  refine zqdQ_runs ?_
  refine stp ?_
  refine O.callX hm (fun r h1 hr1 => ?_) (fun c h1 hx => ?_)
  · obtain ⟨l, pl', hS, ⟨rfl, hl⟩, hp1, hf⟩ := hr1
    obtain ⟨a1, a2, a3, a4, rfl⟩ := four hl
    rw [bcells4]
    haveI : HGet h1 h.n _ := hf.keep (b := h.n) HGet.new (by simp) (by omega)
    refine stp ?_
    refine caught_none.mono (fun u' h' hu => ?_) (fun _ _ _ hx => hx.elim)
    obtain ⟨rfl, rfl⟩ := hu
    refine L.nil (rd_ok hS ?_ ⟨rfl, rfl⟩ (hp1.keep (S := fun i => i = h.n) (Fr.refl.set fun _ => rfl) (by omega) fun i hi hn => ?_))
    · exact Fr.set (Fr.trans (S := fun i => i = p) Fr.refl.push hf fun _ _ h => h) fun hlt => by omega
    · have := hr.own.lt hi
      omega
  · obtain ⟨e, pl', hS, he, rfl, hp1, hf⟩ := hx
    refine stp ?_
    refine (caught_ok hp1).mono (fun u' h' hu => ?_) (fun _ _ _ hx => hx.elim)
    obtain ⟨hs, hp2, hf2⟩ := hu
    rw [hs]
    haveI : HGet h' h.n _ := (hf.trans' hf2).keep (b := h.n) HGet.new (by simp) (by omega)
    exact L.nil (rd_err hS he (Fr.trans (S := fun i => i = p) Fr.refl.push (hf.trans' hf2) fun _ _ h => h) ⟨rfl, rfl⟩ hp2)
theorem readsK_bad {h : Heap} {p : Nat} {sv : Value} {bs : List UInt8} {pl : Nat} {e fa : Int} {f : Value} (hr : PR h p sv bs pl e fa) (he : e ≠ 0) :
    Runs Tryz.prog T0 (.fn fn_zqdQ) [.pointer (some ⟨p, 0, none⟩), f] h (fun r h' => r = .agg ⟨z4⟩ ∧ Fr (fun _ => False) h h') (fun _ _ => False) := by
  haveI : HGet h p _ := ⟨hr.get⟩
  haveI : BLt p h := ⟨hr.lt⟩
  refine zqdQ_runs ?_
  refine stp ?_
  refine C.ifB (fun h1 => ?_) (fun h1 => ?_)
  · refine stp ?_
    exact ⟨rfl, Fr.refl.push⟩
  · exfalso; simp at h1; exact he h1
theorem Key_run {h : Heap} {p : Nat} {sv : Value} {bs : List UInt8} {st : RSt} (hp : PRs h p sv bs st) :
    Runs Tryz.prog T0 (.fn fn_zbdQ) [.pointer (some ⟨p, 0, none⟩)] h (Reads h p sv bs (rd (partS 4 bs) zb4 st) fun l r _ => r = .agg ⟨bcells l⟩ ∧ l.length = 4) (fun _ _ => False) := by
  obtain ⟨st1, e, fa⟩ := st
  obtain ⟨pl, h1, h2⟩ := hp.ex
  have hlt := h2.lt
  refine zbdQ_runs ?_
  refine stp ?_
  have hf0 : Fr (fun i => i = p) h ((h.push (AObj.cells [Value.pointer (some ⟨p, 0, none⟩)] 0)).push (AObj.cells z4 0)) := Fr.refl.push.push
  by_cases he : e = 0
  · subst he
    obtain ⟨rfl, h3⟩ := h1 rfl
    have h3 : fa = 0 := h3
    subst h3
    refine O.call' (readsK_ok (S := partS 4 bs) (h2.none Fr.refl.push.push) (Key1_ok (h2.none Fr.refl.push.push.push) (by simp; omega))) (fun r h' hq => ?_)
    obtain ⟨hf, ⟨rfl, hl⟩, hp'⟩ := hq
    generalize (rd (partS 4 bs) zb4 ⟨pl, 0, 0⟩) = q at *
    obtain ⟨L, st2⟩ := q
    simp only at hl hp' ⊢
    obtain ⟨a1, a2, a3, a4, rfl⟩ := four hl
    rw [bcells4]
    haveI : HGet h' (h.push (AObj.cells [Value.pointer (some ⟨p, 0, none⟩)] 0)).n _ := hf.keep (b := (h.push (AObj.cells [Value.pointer (some ⟨p, 0, none⟩)] 0)).n) HGet.new (by simp) (by simp; omega)
    refine stp ?_
    refine ⟨Fr.set (hf0.trans' hf) fun hlt => by simp at hlt; omega, ⟨rfl, rfl⟩, hp'.keep (S := fun i => i = (h.push (AObj.cells [Value.pointer (some ⟨p, 0, none⟩)] 0)).n) (Fr.refl.set fun _ => rfl) (by simp; omega) fun i hi hn => ?_⟩
    have := h2.own.lt hi
    simp at hn; omega
  · refine O.call' (readsK_bad (h2.none Fr.refl.push.push) he) (fun r h' hq => ?_)
    obtain ⟨rfl, hf⟩ := hq
    haveI : HGet h' (h.push (AObj.cells [Value.pointer (some ⟨p, 0, none⟩)] 0)).n _ := hf.keep (b := (h.push (AObj.cells [Value.pointer (some ⟨p, 0, none⟩)] 0)).n) HGet.new (by simp) id
    refine stp ?_
    refine rd_bad he (Fr.set (hf0.trans' (hf.mono fun _ _ h => h.elim)) fun hlt => by simp at hlt; omega) ⟨rfl, rfl⟩ (((hp.none Fr.refl.push.push).none hf).keep (S := fun i => i = (h.push (AObj.cells [Value.pointer (some ⟨p, 0, none⟩)] 0)).n) (Fr.refl.set fun _ => rfl) (by simp; omega) fun i hi hn => ?_)
    have := h2.own.lt hi
    simp at hn; omega
end Go.Proofs.YtbmpalbdbcjieaaGreat.A

namespace Go.Proofs.YtbmpalbdbcjieaaGreat.A
open Go Go.Vm
set_option maxRecDepth 10000
set_option linter.unusedVariables false
structure Val where
  k0 : UInt8
  k1 : UInt8
  k2 : UInt8
  k3 : UInt8
  p : Int
deriving DecidableEq
abbrev Val.key (v : Val) : List UInt8 := [v.k0, v.k1, v.k2, v.k3]
abbrev Val.cells (v : Val) : List Value := [.int .u8 v.k0.toNat, .int .u8 v.k1.toNat, .int .u8 v.k2.toNat, .int .u8 v.k3.toNat, .int .i64 v.p]
abbrev zVal : Val := ⟨0, 0, 0, 0, 0⟩
def Val.of (l : List UInt8) (p : Int) : Val := ⟨l.getD 0 0, l.getD 1 0, l.getD 2 0, l.getD 3 0, p⟩
def vcells (l : List Val) : List Value := l.flatMap Val.cells
theorem vcells_cons (v : Val) (l : List Val) : vcells (v :: l) = v.cells ++ vcells l := rfl
theorem vcells_append (l m : List Val) : vcells (l ++ m) = vcells l ++ vcells m := by simp [vcells]
theorem vcells_at : ∀ {l : List Val} {k : Nat}, k < l.length → ((vcells l).drop (k * 5)).take 5 = (l.getD k zVal).cells
  | v :: l, 0, _ => by rw [vcells_cons]; rfl
  | v :: l, k + 1, h => by
    have := vcells_at (l := l) (k := k) (by simpa using h)
    rw [vcells_cons, show (k + 1) * 5 = v.cells.length + k * 5 from by simp; omega, ← List.drop_drop, List.drop_left]
    exact this
theorem val_cells {h : Heap} {b o n k : Nat} {l : List Val} (hc : cellsAt h b o (n * 5) = some (vcells l)) (hn : l.length = n) (hk : k < n) : Cells h b (o + k * 5) 5 (l.getD k zVal).cells := ⟨by
  rw [cellsAt_sub hc (by omega), vcells_at (by omega)]⟩
theorem val_key {h : Heap} {b o n k : Nat} {l : List Val} (hc : cellsAt h b o (n * 5) = some (vcells l)) (hn : l.length = n) (hk : k < n) : Cells h b (o + k * 5) 4 [.int .u8 (l.getD k zVal).k0.toNat, .int .u8 (l.getD k zVal).k1.toNat, .int .u8 (l.getD k zVal).k2.toNat, .int .u8 (l.getD k zVal).k3.toNat] := ⟨by
  have h5 := (val_cells hc hn hk).eq
  have := cellsAt_sub (k := 0) (m := 4) h5 (by omega)
  simpa using this⟩
theorem val_power {h : Heap} {b o n k : Nat} {l : List Val} (hc : cellsAt h b o (n * 5) = some (vcells l)) (hn : l.length = n) (hk : k < n) : Cell h b (o + k * 5 + 4) (.int .i64 (l.getD k zVal).p) := ⟨by
  have h5 := (val_cells hc hn hk).eq
  have := cellsAt_sub (k := 4) (m := 1) h5 (by omega)
  simpa using this⟩
def stepsV (least : Int) : Option Val → List Val → Int
  | _, [] => 0
  | last, v :: l => if (match last with | none => false | some x => !keyLt x.key v.key) = true then 9 else if v.p < least ∨ 4611686018427387904 < v.p then 3 else stepsV least (some v) l
def checkV (l : List Val) : Int := if l.length = 0 then 6 else if 64 < l.length then 4 else stepsV 1 none l
def lastV (l : List Val) (k : Nat) : Option Val := if k = 0 then none else some (l.getD (k - 1) zVal)
theorem drop_getD {l : List Val} {k : Nat} (hk : k < l.length) : l.drop k = l.getD k zVal :: l.drop (k + 1) := by
  rw [List.drop_eq_getElem_cons hk]
  simp [List.getD, hk]
theorem stepsV_at {least : Int} {l : List Val} {k : Nat} (hk : k < l.length) : stepsV least (lastV l k) (l.drop k) =
    if (match lastV l k with | none => false | some x => !keyLt x.key (l.getD k zVal).key) = true then 9 else if (l.getD k zVal).p < least ∨ 4611686018427387904 < (l.getD k zVal).p then 3 else stepsV least (lastV l (k + 1)) (l.drop (k + 1)) := by
  rw [drop_getD hk]
  rfl
def atS (x : Val) (begun : Bool) (least most : Int) (v : Val) : Int := if (begun && !keyLt x.key v.key) = true then 9 else if v.p < least ∨ most < v.p then 3 else 0
theorem stepsV_atS {least : Int} {l : List Val} {k : Nat} {x : Val} (hk : k < l.length) (hx : 0 < k → lastV l k = some x) :
    stepsV least (lastV l k) (l.drop k) = if atS x (decide (0 < k)) least 4611686018427387904 (l.getD k zVal) = 0 then stepsV least (lastV l (k + 1)) (l.drop (k + 1)) else atS x (decide (0 < k)) least 4611686018427387904 (l.getD k zVal) := by
  rw [stepsV_at hk]
  by_cases h0 : 0 < k
  · rw [hx h0]
    unfold atS
    simp only [decide_eq_true h0, Bool.true_and]
    split
    · rfl
    · split
      · rfl
      · rfl
  · obtain rfl : k = 0 := by omega
    unfold atS
    simp only [lastV, if_true, Nat.lt_irrefl, decide_false, Bool.false_and, Bool.false_eq_true, if_false]
    split
    · rfl
    · rfl
def stepV (bs : List UInt8) : Nat → List Val × RSt → List Val × RSt
  | 0, y => y
  | k + 1, y =>
    let a := rd (partS 4 bs) zb4 (stepV bs k y).2
    let b := rd (numS bs) 0 a.2
    ((stepV bs k y).1 ++ [Val.of a.1 (b.1 : Nat)], b.2)
def decV (bs : List UInt8) : List Val × Int × Int :=
  let n := rd (numS bs) 0 ⟨0, 0, 0⟩
  if 64 < n.1 then ([], (4, 0)) else
    let y := stepV bs n.1 ([], n.2)
    let f := endS bs y.2
    let g := if f = (0, 0) then (checkV y.1, 0) else f
    if g = (0, 0) then (y.1, (0, 0)) else ([], g)
theorem stepV_len (bs : List UInt8) (y : List Val × RSt) : ∀ k, (stepV bs k y).1.length = y.1.length + k
  | 0 => rfl
  | k + 1 => by
    show ((stepV bs k y).1 ++ [_]).length = _
    rw [List.length_append, stepV_len bs y k]
    simp
    omega
theorem decV_len (bs : List UInt8) : (decV bs).1.length ≤ 64 := by
  unfold decV
  simp only
  split
  · simp
  · rename_i hn
    have key : ∀ g : Int × Int, (if g = (0, 0) then ((stepV bs (rd (numS bs) 0 ⟨0, 0, 0⟩).1 ([], (rd (numS bs) 0 ⟨0, 0, 0⟩).2)).1, ((0 : Int), (0 : Int))) else (([] : List Val), g)).1.length ≤ 64 := fun g => by
      split
      · rw [stepV_len]; simp; omega
      · simp
    exact key _
end Go.Proofs.YtbmpalbdbcjieaaGreat.A

namespace Go.Proofs.YtbmpalbdbcjieaaGreat.A
open Go Go.Vm
set_option maxRecDepth 10000
set_option linter.unusedVariables false
theorem Compare_ok {h : Heap} {v w : Value} {a b : List UInt8} {n m : Nat} (h1 : Rd h 1 v (bcells a) n) (h2 : Rd h 1 w (bcells b) m) :
    Runs Tryz.prog T0 (.fn fn_zpQ) [v, w] h (fun r h' => r = .int .i64 (cmpB a b) ∧ h' = h) (fun _ _ => False) := by
  have h1' := h1
  have h2' := h2
  obtain ⟨a0, c0, rfl, _, _⟩ := h1
  obtain ⟨a1, c1, rfl, _, _⟩ := h2
  refine zpQ_runs ?_
  refine stp ?_
  refine O.how (XOp.mkCompare h1' h2' (by kernel_rfl)) ?_
  refine stp ?_
  exact ⟨rfl, rfl⟩
abbrev lookC (x : Val) (begun : Bool) (least most : Int) : List Value := [.int .u8 x.k0.toNat, .int .u8 x.k1.toNat, .int .u8 x.k2.toNat, .int .u8 x.k3.toNat, .bool begun, .int .i64 least, .int .i64 most]
theorem at_ok {h : Heap} {q : Nat} {x v : Val} {begun : Bool} {least most : Int} (hg : h.get q = .cells (lookC x begun least most) 0) (hq : q < h.n) :
    Runs Tryz.prog T0 (.fn fn_ztcQ) [.pointer (some ⟨q, 0, none⟩), .agg ⟨v.cells⟩] h (fun r h' => r = .int .i64 (atS x begun least most v) ∧ h'.get q = .cells (lookC v true least most) 0 ∧ Fr (fun i => i = q) h h') (fun _ _ => False) := by
  haveI : HGet h q _ := ⟨hg⟩
  haveI : BLt q h := ⟨hq⟩
  have fin : ∀ {c : List Value} {o : AObj}, c = lookC v true least most → (((h.push o).set q (.cells c 0)).get q = .cells (lookC v true least most) 0 ∧ Fr (fun i => i = q) h ((h.push o).set q (.cells c 0))) := fun hc => ⟨by rw [Heap.get_set, if_pos rfl, hc], Fr.refl.push.set fun _ => rfl⟩
  refine ztcQ_runs ?_
  refine stp ?_
  cases begun with
  | true =>
    refine stp ?_
    refine D.callT (Compare_ok (a := x.key) (b := v.key) (Rd.mk (n := 4) (by simp; omega) ?_) (Rd.mk (n := 4) (by simp) ?_)) (fun _ _ _ => rfl) (fun r h1 hr => ?_)
    · rw [cellsAt_of (c := lookC x true least most) (by rw [Heap.get_push, if_neg (by omega), hg]; rfl) (by simp)]
      rfl
    · rw [cellsAt_of (c := v.cells) (by rw [Heap.get_push, if_pos rfl]; rfl) (by simp)]
      rfl
    obtain ⟨rfl, rfl⟩ := hr
    refine stp ?_
    have hk : keyLt x.key v.key = decide (cmpB x.key v.key < 0) := rfl
    unfold atS
    refine C.if (fun hge => ?_) (fun hlt => ?_)
    · refine stp ?_
      rw [if_pos (by rw [hk, decide_eq_false (by omega)]; rfl)]
      exact ⟨rfl, fin rfl⟩
    · refine stp ?_
      rw [if_neg (by rw [hk, decide_eq_true (by omega)]; simp)]
      refine D.dec (fun h1 => ?_) (fun h1 => ?_)
      · refine stp ?_
        rw [if_pos (.inl h1)]
        exact ⟨rfl, fin rfl⟩
      · refine stp ?_
        refine C.if (fun h2 => ?_) (fun h2 => ?_)
        · refine stp ?_
          rw [if_pos (.inr h2)]
          exact ⟨rfl, fin rfl⟩
        · refine stp ?_
          rw [if_neg (by omega)]
          exact ⟨rfl, fin rfl⟩
  | false =>
    refine stp ?_
    unfold atS
    rw [if_neg (by simp)]
    refine D.dec (fun h1 => ?_) (fun h1 => ?_)
    · refine stp ?_
      rw [if_pos (.inl h1)]
      exact ⟨rfl, fin rfl⟩
    · refine stp ?_
      refine C.if (fun h2 => ?_) (fun h2 => ?_)
      · refine stp ?_
        rw [if_pos (.inr h2)]
        exact ⟨rfl, fin rfl⟩
      · refine stp ?_
        rw [if_neg (by omega)]
        exact ⟨rfl, fin rfl⟩
end Go.Proofs.YtbmpalbdbcjieaaGreat.A

namespace Go.Proofs.YtbmpalbdbcjieaaGreat.A
open Go Go.Vm
set_option maxRecDepth 10000
set_option linter.unusedVariables false
theorem VCheck_ok {h : Heap} {v : Value} {l : List Val} (hv : Rd h 5 v (vcells l) l.length) :
    Runs Tryz.prog T0 (.fn fn_zrcQ) [v] h (fun r h' => r = .int .i64 (checkV l) ∧ Fr (fun _ => False) h h') (fun _ _ => False) := by
  obtain ⟨a, cap, rfl, hlen, hc⟩ := hv
  refine zrcQ_runs ?_
  refine stp ?_
  unfold checkV
  refine C.if (fun h0 => ?_) (fun h0 => ?_)
  · refine stp ?_
    rw [if_pos (by omega)]
    exact ⟨rfl, Fr.refl⟩
  rw [if_neg (by omega)]
  refine stp ?_
  refine C.if (fun h1 => ?_) (fun h1 => ?_)
  · refine stp ?_
    rw [if_pos (by omega)]
    exact ⟨rfl, Fr.refl⟩
  rw [if_neg (by omega)]
  obtain ⟨b, o, sp, rfl, hb, hcc⟩ := hc (by omega)
  refine stp ?_
  refine zrcQ_l0_rule (fun m v18 h' => ∃ k : Nat, k ≤ l.length ∧ m = l.length - k ∧ v18 = .int .i64 k ∧ (∃ x : Val, h'.get h.n = .cells (lookC x (decide (0 < k)) 1 4611686018427387904) 0 ∧ (0 < k → lastV l k = some x)) ∧ h.n < h'.n ∧ Fr (fun _ => False) h h' ∧ stepsV 1 none l = stepsV 1 (lastV l k) (l.drop k)) ?_ l.length ⟨0, by omega, rfl, rfl, ⟨zVal, ?_, by omega⟩, by simp, ?_, rfl⟩
  · rintro m v18 h' x2 x5 x6 x19 x20 x21 x22 x23 x24 x25 x26 x27 ⟨k, hk, rfl, rfl, ⟨x, hg, hx⟩, hn, hf, hst⟩
    refine stp ?_
    refine C.if (fun hlt => ?_) (fun hge => ?_)
    · have hlt : k < l.length := by omega
      have hcc' : cellsAt h' b o (l.length * 5) = some (vcells l) := by rw [cellsAt_keep hf hb id]; exact hcc
      haveI := val_cells hcc' rfl hlt
      refine stp ?_
      refine O.call' (at_ok (x := x) (v := l.getD k zVal) (begun := decide (0 < k)) (by rw [Heap.get_push, if_neg (by omega), hg]) (by simp; omega)) (fun r h2 hr => ?_)
      obtain ⟨rfl, hg2, hf2⟩ := hr
      have hn2 := hf2.n
      simp only [Heap.n_push] at hn2
      have hfh : Fr (fun _ => False) h h2 := Fr.trans (S := fun _ => False) hf (Fr.trans (S := fun i => i = h.n) Fr.refl.push hf2 fun i _ hi => hi) fun i hi ho => by omega
      refine stp ?_
      refine C.ifN (fun he => ?_) (fun he => ?_)
      · refine stp ?_
        rw [hst, stepsV_atS hlt hx, if_neg he]
        exact ⟨rfl, hfh⟩
      · refine stp ?_
        refine zrcQ_l0_again (l.length - (k + 1)) (by omega) ⟨k + 1, by omega, rfl, rfl, ⟨l.getD k zVal, by rw [hg2, decide_eq_true (show 0 < k + 1 by omega)], fun _ => rfl⟩, by omega, hfh, ?_⟩
        rw [hst, stepsV_atS hlt hx, if_pos he]
    · obtain rfl : k = l.length := by omega
      refine stp ?_
      rw [hst, List.drop_length]
      exact ⟨rfl, hf⟩
  · rw [Heap.get_push, if_pos rfl]
    rfl
  · exact Fr.refl.push
end Go.Proofs.YtbmpalbdbcjieaaGreat.A

namespace Go.Proofs.YtbmpalbdbcjieaaGreat.A
open Go Go.Vm
set_option maxRecDepth 10000
set_option linter.unusedVariables false
theorem u8nat {n : Nat} (h : n < 256) : (UInt8.ofNat n).toNat = n := by
  rw [UInt8.toNat_ofNat']
  exact Nat.mod_eq_of_lt h
theorem rd_lit {h : Heap} {c : List Value} {n es : Nat} (hc : c.length = n) : Rd (h.push (.cells c es)) 1 (.slice (some ⟨h.n, 0, none⟩) n n) c n := by
  refine Rd.mk (by simp) ?_
  rw [cellsAt_of (c := c) (by rw [Heap.get_push, if_pos rfl]; rfl) (by omega), List.drop_zero, List.take_of_length_le (by omega)]
end Go.Proofs.YtbmpalbdbcjieaaGreat.A

namespace Go.Proofs.YtbmpalbdbcjieaaGreat.A
open Go Go.Vm
set_option maxRecDepth 10000
set_option linter.unusedVariables false
def plainP (c : Int) : Prop := (97 ≤ c ∧ c ≤ 122) ∨ (48 ≤ c ∧ c ≤ 57) ∨ c = 45
instance (c : Int) : Decidable (plainP c) := by unfold plainP; infer_instance
theorem plain_ok {h : Heap} {c : Int} : Runs Tryz.prog T0 (.fn fn_zzQ) [.int .i32 c] h (fun r h' => r = .bool (decide (plainP c)) ∧ h' = h) (fun _ _ => False) := by
  have fin : ∀ {b : Bool}, (b = true ↔ plainP c) → Value.bool b = .bool (decide (plainP c)) := fun {b} hb => by
    congr 1
    by_cases hp : plainP c
    · rw [decide_eq_true hp]; exact hb.2 hp
    · rw [decide_eq_false hp]
      cases b with
      | false => rfl
      | true => exact absurd (hb.1 rfl) hp
  unfold plainP at fin
  refine zzQ_runs ?_
  refine stpDP ?_
  refine O.dec (fun h1 => ?_) (fun h1 => ?_)
  · refine stpDP ?_
    refine O.dec (fun h2 => ?_) (fun h2 => ?_)
    · refine stpDP ?_
      exact ⟨fin (by simp; omega), rfl⟩
    · refine stpDP ?_
      refine O.dec (fun h3 => ?_) (fun h3 => ?_)
      · refine stpDP ?_
        refine O.dec (fun h4 => ?_) (fun h4 => ?_)
        · refine stpDP ?_
          exact ⟨fin (by simp; omega), rfl⟩
        · refine stpDP ?_
          exact ⟨fin (by simp; omega), rfl⟩
      · refine stpDP ?_
        exact ⟨fin (by simp; omega), rfl⟩
  · refine stpDP ?_
    refine O.dec (fun h3 => ?_) (fun h3 => ?_)
    · refine stpDP ?_
      refine O.dec (fun h4 => ?_) (fun h4 => ?_)
      · refine stpDP ?_
        exact ⟨fin (by simp; omega), rfl⟩
      · refine stpDP ?_
        exact ⟨fin (by simp; omega), rfl⟩
    · refine stpDP ?_
      exact ⟨fin (by simp; omega), rfl⟩
def plainB (b : UInt8) : Bool := decide (plainP (b.toNat : Nat))
theorem each_ok {h : Heap} {l : List UInt8} : Runs Tryz.prog T0 (.fn fn_zxQ) [.string ⟨⟨l⟩⟩, .func (.func fn_zzQ) ⟨[]⟩ ⟨[]⟩] h (fun r h' => r = .bool (l.all plainB) ∧ Fr (fun _ => False) h h') (fun _ _ => False) := by
  refine zxQ_runs ?_
  refine stpDP ?_
  refine zxQ_l0_rule (v := undef) (fun m h' => ∃ pos : Nat, pos ≤ l.length ∧ m = l.length - pos ∧ h' = h.push (.strIter ⟨⟨l⟩⟩ pos) ∧ (l.take pos).all plainB = true) ?_ l.length ⟨0, by omega, rfl, rfl, by simp⟩
  rintro m h' x4 x6 x9 x10 x11 x12 x13 x14 x15 ⟨pos, hpos, rfl, rfl, hall⟩
  refine stpDP ?_
  by_cases hlt : pos < l.length
  · have hsz : pos < (ByteArray.mk ⟨l⟩).size := hlt
    refine O.how (XOp.mkNextStr hsz) ?_
    refine stpDP ?_
    refine O.call' plain_ok (fun r h2 hr => ?_)
    obtain ⟨rfl, rfl⟩ := hr
    refine stpDP ?_
    have hb : (ByteArray.mk ⟨l⟩)[pos] = l[pos] := rfl
    have htake : l.take (pos + 1) = l.take pos ++ [l[pos]] := List.take_succ_eq_append_getElem hlt
    refine C.ifN (fun hp => ?_) (fun hp => ?_)
    · refine stpDP ?_
      rw [Heap.push_set]
      refine ⟨?_, Fr.refl.push⟩
      have : plainB l[pos] = false := by
        unfold plainB
        by_cases ha : (l[pos]).toNat < 128
        · rw [decode_ascii _ _ hsz (by rw [hb]; exact ha)] at hp
          exact decide_eq_false (by rw [hb] at hp; exact hp)
        · refine decide_eq_false fun h => ?_
          unfold plainP at h
          omega
      congr 1
      refine (List.all_eq_false.2 ⟨l[pos], List.getElem_mem _, by rw [this]; simp⟩).symm
    · have ha : (l[pos]).toNat < 128 := by
        rcases Nat.lt_or_ge (l[pos]).toNat 128 with h | h
        · exact h
        · have := (decode_high _ _ hsz (by rw [hb]; exact h)).1
          unfold plainP at hp
          omega
      rw [decode_ascii _ _ hsz (by rw [hb]; exact ha)] at hp
      rw [decode_ascii _ _ hsz (by rw [hb]; exact ha)]
      refine stpDP ?_
      rw [Heap.push_set]
      refine zxQ_l0_again (v := undef) (l.length - (pos + 1)) (by omega) ⟨pos + 1, by omega, rfl, rfl, ?_⟩
      rw [htake, List.all_append, hall]
      simp only [List.all_cons, List.all_nil, Bool.and_true, Bool.true_and]
      exact decide_eq_true (by rw [hb] at hp; exact hp)
  · obtain rfl : pos = l.length := by omega
    refine O.how (XOp.mkNextEnd (s := ⟨⟨l⟩⟩) (pos := l.length) (by show ¬ l.length < l.length; omega)) ?_
    refine stpDP ?_
    rw [List.take_length] at hall
    rw [hall]
    exact ⟨rfl, Fr.refl.push⟩
def nameS (l : List UInt8) : Bool := decide (1 ≤ l.length) && decide (l.length ≤ 32) && l.all plainB
theorem Name_ok {h : Heap} {l : List UInt8} : Runs Tryz.prog T0 (.fn fn_zwQ) [.string ⟨⟨l⟩⟩] h (fun r h' => r = .bool (nameS l) ∧ Fr (fun _ => False) h h') (fun _ _ => False) := by
  have hsz : (ByteArray.mk ⟨l⟩).size = l.length := rfl
  refine zwQ_runs ?_
  refine stpDP ?_
  unfold nameS
  refine O.dec (fun h1 => ?_) (fun h1 => ?_)
  · refine stpDP ?_
    refine O.dec (fun h2 => ?_) (fun h2 => ?_)
    · refine stpDP ?_
      refine O.callT each_ok (fun r h' hr => ?_)
      obtain ⟨rfl, hf⟩ := hr
      refine stpDP ?_
      rw [decide_eq_true (show 1 ≤ l.length by omega), decide_eq_true (show l.length ≤ 32 by omega)]
      exact ⟨rfl, hf⟩
    · refine stpDP ?_
      rw [decide_eq_false (show ¬ l.length ≤ 32 by omega)]
      exact ⟨by simp, Fr.refl⟩
  · refine stpDP ?_
    rw [decide_eq_false (show ¬ 1 ≤ l.length by omega)]
    exact ⟨by simp, Fr.refl⟩
end Go.Proofs.YtbmpalbdbcjieaaGreat.A

namespace Go.Proofs.YtbmpalbdbcjieaaGreat.A
open Go Go.Vm
set_option maxRecDepth 10000
set_option linter.unusedVariables false
structure Hd where
  chain : List UInt8
  height : Int
  time : Int
  prev : List UInt8
  vals : List UInt8
  next : List UInt8
  app : List UInt8
structure Hd.ok (x : Hd) : Prop where
  prev : x.prev.length = 32
  vals : x.vals.length = 32
  next : x.next.length = 32
  app : x.app.length = 32
abbrev Hd.cells (x : Hd) : List Value := .string ⟨⟨x.chain⟩⟩ :: .int .i64 x.height :: .int .i64 x.time :: (bcells x.prev ++ (bcells x.vals ++ (bcells x.next ++ bcells x.app)))
theorem rules1_ok {h : Heap} {x : Hd} (hx : x.ok) : Runs Tryz.prog T0 (.fn fn_zbbQ) [.agg ⟨x.cells⟩] h (fun r h' => r = .bool (nameS x.chain) ∧ Fr (fun _ => False) h h') (fun _ _ => False) := by
  refine zbbQ_runs ?_
  refine stpP ?_
  refine O.call' Name_ok (fun r h' hr => ?_)
  obtain ⟨rfl, hf⟩ := hr
  refine stpP ?_
  exact ⟨rfl, Fr.trans (S := fun _ => False) Fr.refl.push hf fun _ _ h => h⟩
theorem rules2_ok {h : Heap} {x : Hd} (hx : x.ok) : Runs Tryz.prog T0 (.fn fn_zcbQ) [.agg ⟨x.cells⟩] h (fun r h' => r = .bool (decide (1 ≤ x.height ∧ x.height ≤ 1073741824)) ∧ Fr (fun _ => False) h h') (fun _ _ => False) := by
  refine zcbQ_runs ?_
  refine stpP ?_
  refine O.dec (fun h1 => ?_) (fun h1 => ?_)
  · refine stpP ?_
    exact ⟨by simp [h1], Fr.refl.push⟩
  · refine stpP ?_
    exact ⟨by simp [h1], Fr.refl.push⟩
theorem rules3_ok {h : Heap} {x : Hd} (hx : x.ok) : Runs Tryz.prog T0 (.fn fn_zdbQ) [.agg ⟨x.cells⟩] h (fun r h' => r = .bool (decide (0 ≤ x.time ∧ x.time ≤ 1099511627776)) ∧ Fr (fun _ => False) h h') (fun _ _ => False) := by
  refine zdbQ_runs ?_
  refine stpP ?_
  refine O.dec (fun h1 => ?_) (fun h1 => ?_)
  · refine stpP ?_
    exact ⟨by simp [h1], Fr.refl.push⟩
  · refine stpP ?_
    exact ⟨by simp [h1], Fr.refl.push⟩
theorem rules_ok {h : Heap} : Runs Tryz.prog T0 (.fn fn_zabQ) [] h (fun r h' => r = .slice (some ⟨h.n, 0, none⟩) 3 3 ∧ h' = h.push (.cells [.func (.func fn_zbbQ) ⟨[]⟩ ⟨[]⟩, .int .i64 5, .func (.func fn_zcbQ) ⟨[]⟩ ⟨[]⟩, .int .i64 3, .func (.func fn_zdbQ) ⟨[]⟩ ⟨[]⟩, .int .i64 3] 0)) (fun _ _ => False) := by
  refine zabQ_runs (v := undef) ?_
  refine stpP ?_
  exact ⟨rfl, rfl⟩
def checkS (x : Hd) : Int := if nameS x.chain = false then 5 else if ¬ (1 ≤ x.height ∧ x.height ≤ 1073741824) then 3 else if ¬ (0 ≤ x.time ∧ x.time ≤ 1099511627776) then 3 else 0
theorem Check_ok {h : Heap} {x : Hd} (hx : x.ok) : Runs Tryz.prog T0 (.fn fn_zuQ) [.agg ⟨x.cells⟩] h (fun r h' => r = .int .i64 (checkS x) ∧ Fr (fun _ => False) h h') (fun _ _ => False) := by
  haveI := l32 hx.prev
  haveI := l32 hx.vals
  haveI := l32 hx.next
  haveI := l32 hx.app
  refine zuQ_runs ?_
  refine stpP ?_
  refine O.call' rules_ok (fun r h1 hr => ?_)
  obtain ⟨rfl, rfl⟩ := hr
  refine stpP ?_
  refine zuQ_l0_rule (fun m v7 h' => ∃ k : Nat, k ≤ 3 ∧ m = 3 - k ∧ v7 = .int .i64 k ∧ Fr (fun _ => False) ((h.push (.cells x.cells 0)).push (.cells [.func (.func fn_zbbQ) ⟨[]⟩ ⟨[]⟩, .int .i64 5, .func (.func fn_zcbQ) ⟨[]⟩ ⟨[]⟩, .int .i64 3, .func (.func fn_zdbQ) ⟨[]⟩ ⟨[]⟩, .int .i64 3] 0)) h' ∧
    (0 < k → nameS x.chain = true) ∧ (1 < k → 1 ≤ x.height ∧ x.height ≤ 1073741824) ∧ (2 < k → 0 ≤ x.time ∧ x.time ≤ 1099511627776)) ?_ 3 ⟨0, by omega, rfl, rfl, Fr.refl, by omega, by omega, by omega⟩
  rintro m v7 h' x2 x4 x8 x9 x10 x11 x12 x13 x14 x15 x16 x17 x18 ⟨k, hk, rfl, rfl, hf, h1, h2, h3⟩
  have hf0 : Fr (fun _ => False) h h' := Fr.trans (S := fun _ => False) Fr.refl.push.push hf fun _ _ h => h
  haveI : HGet h' h.n _ := hf.keep (b := h.n) (HGet.push (k := BLt.new) (g := HGet.new)) (by simp; omega) id
  haveI : HGet h' (h.push (.cells x.cells 0)).n _ := hf.keep (b := (h.push (.cells x.cells 0)).n) HGet.new (by simp) id
  haveI : BLt h.n h' := ⟨by have := hf.n; simp at this; omega⟩
  haveI : BLt (h.push (.cells x.cells 0)).n h' := ⟨by have := hf.n; simp at this ⊢; omega⟩
  have hend : ∀ {o : AObj} {b : Heap}, Fr (fun _ => False) (h'.push o) b → Fr (fun _ => False) h' b := fun hb => Fr.trans (S := fun _ => False) Fr.refl.push hb fun _ _ h => h
  rcases (show k = 0 ∨ k = 1 ∨ k = 2 ∨ k = 3 by omega) with rfl | rfl | rfl | rfl
  · refine stpP ?_
    rw [Nat.zero_mul]
    refine stpP ?_
    refine O.call' (rules1_ok hx) (fun r h2' hr => ?_)
    obtain ⟨rfl, hf2⟩ := hr
    haveI : HGet h2' h'.n _ := hf2.keep (b := h'.n) HGet.new (by simp) id
    refine stpP ?_
    refine C.ifB (fun hb => ?_) (fun hb => ?_)
    · refine stpP ?_
      unfold checkS
      rw [if_pos (by simpa using hb)]
      exact ⟨rfl, hf0.trans' (hend hf2)⟩
    · refine stpP ?_
      exact zuQ_l0_again 2 (by omega) ⟨1, by omega, rfl, rfl, hf.trans' (hend hf2), fun _ => by simpa using hb, by omega, by omega⟩
  · refine stpP ?_
    refine O.call' (rules2_ok hx) (fun r h2' hr => ?_)
    obtain ⟨rfl, hf2⟩ := hr
    haveI : HGet h2' h'.n _ := hf2.keep (b := h'.n) HGet.new (by simp) id
    refine stpP ?_
    refine C.ifN (fun hb => ?_) (fun hb => ?_)
    · refine stpP ?_
      unfold checkS
      rw [if_neg (by rw [h1 (by omega)]; simp), if_pos hb]
      exact ⟨rfl, hf0.trans' (hend hf2)⟩
    · refine stpP ?_
      exact zuQ_l0_again 1 (by omega) ⟨2, by omega, rfl, rfl, hf.trans' (hend hf2), fun _ => h1 (by omega), fun _ => hb, by omega⟩
  · refine stpP ?_
    refine O.call' (rules3_ok hx) (fun r h2' hr => ?_)
    obtain ⟨rfl, hf2⟩ := hr
    haveI : HGet h2' h'.n _ := hf2.keep (b := h'.n) HGet.new (by simp) id
    refine stpP ?_
    refine C.ifN (fun hb => ?_) (fun hb => ?_)
    · refine stpP ?_
      unfold checkS
      rw [if_neg (by rw [h1 (by omega)]; simp), if_neg (fun h => h (h2 (by omega))), if_pos hb]
      exact ⟨rfl, hf0.trans' (hend hf2)⟩
    · refine stpP ?_
      exact zuQ_l0_again 0 (by omega) ⟨3, by omega, rfl, rfl, hf.trans' (hend hf2), fun _ => h1 (by omega), fun _ => h2 (by omega), fun _ => hb⟩
  · refine stpP ?_
    unfold checkS
    rw [if_neg (by rw [h1 (by omega)]; simp), if_neg (fun h => h (h2 (by omega))), if_neg (fun h => h (h3 (by omega)))]
    exact ⟨rfl, hf0⟩
theorem hashes_ok {h : Heap} {x : Hd} {q : Nat} (hq : h.get q = .cells x.cells 0) (hlt : q < h.n) : Runs Tryz.prog T0 (.fn fn_zyQ) [.pointer (some ⟨q, 0, none⟩)] h
    (fun r h' => r = .agg ⟨[.pointer (some ⟨q, 3, none⟩), .pointer (some ⟨q, 35, none⟩), .pointer (some ⟨q, 67, none⟩), .pointer (some ⟨q, 99, none⟩)]⟩ ∧ Fr (fun _ => False) h h') (fun _ _ => False) := by
  refine zyQ_runs ?_
  refine stpP ?_
  exact ⟨rfl, Fr.refl.push⟩
end Go.Proofs.YtbmpalbdbcjieaaGreat.A

namespace Go.Proofs.YtbmpalbdbcjieaaGreat.A
open Go Go.Vm
set_option maxRecDepth 10000
set_option linter.unusedVariables false
def setH (k : Nat) (x : Hd) (l : List UInt8) : Hd := match k with
  | 0 => { x with prev := l }
  | 1 => { x with vals := l }
  | 2 => { x with next := l }
  | _ => { x with app := l }
def stepD (bs : List UInt8) : Nat → Hd × RSt → Hd × RSt
  | 0, y => y
  | k + 1, y => (setH k (stepD bs k y).1 (rd (partS 32 bs) zb32 (stepD bs k y).2).1, (rd (partS 32 bs) zb32 (stepD bs k y).2).2)
theorem rd_part_len {bs : List UInt8} {st : RSt} : (rd (partS 32 bs) zb32 st).1.length = 32 := by
  unfold rd
  split
  · unfold partS
    split
    · rename_i a pl h
      split at h
      · cases h
      · cases h
        rw [List.length_take, List.length_drop]
        omega
    · rfl
  · rfl
theorem setH_ok {k : Nat} {x : Hd} {l : List UInt8} (hx : x.ok) (hl : l.length = 32) : (setH k x l).ok := by
  unfold setH
  split <;> exact ⟨by first | exact hl | exact hx.prev, by first | exact hl | exact hx.vals, by first | exact hl | exact hx.next, by first | exact hl | exact hx.app⟩
theorem stepD_ok {bs : List UInt8} {y : Hd × RSt} (hy : y.1.ok) : ∀ k, (stepD bs k y).1.ok
  | 0 => hy
  | k + 1 => setH_ok (stepD_ok hy k) rd_part_len
def headD (bs : List UInt8) : Hd × RSt :=
  let a := rd (bytesS bs 32) [] ⟨0, 0, 0⟩
  let b := rd (numS bs) 0 a.2
  let c := rd (numS bs) 0 b.2
  (⟨a.1, b.1, c.1, zb32, zb32, zb32, zb32⟩, c.2)
def zeroHd : Hd := ⟨[], 0, 0, zb32, zb32, zb32, zb32⟩
theorem zeroHd_ok : zeroHd.ok := ⟨rfl, rfl, rfl, rfl⟩
def decS (bs : List UInt8) : Hd × Int × Int :=
  let y := stepD bs 4 (headD bs)
  let f := endS bs y.2
  let g := if f = (0, 0) then (checkS y.1, 0) else f
  if g = (0, 0) then (y.1, (0, 0)) else (zeroHd, g)
theorem PRs.own_lt {h : Heap} {p : Nat} {sv : Value} {bs : List UInt8} {st : RSt} (hp : PRs h p sv bs st) {i : Nat} (hi : ownedBy sv i) : i < h.n := let ⟨_, _, h2⟩ := hp.ex; h2.own.lt hi
theorem same_fault {a b : Int} : same [.int .i64 a, .int .i64 b] [.int .i64 0, .int .i64 0] = decide ((a, b) = ((0, 0) : Int × Int)) := by
  by_cases h : (a, b) = ((0, 0) : Int × Int)
  · rw [decide_eq_true h]
    cases h
    exact same_self _
  · rw [decide_eq_false h]
    exact same_ne.2 fun h2 => h (by cases h2; rfl)
theorem Decode_ok {h : Heap} {v : Value} {bs : List UInt8} (hv : Rd h 1 v (bcells bs) bs.length) (hs : bs.length < 1048576) : Runs Tryz.prog T0 (.fn fn_zvQ) [v] h
    (fun r h' => r = .tuple ⟨[.agg ⟨(decS bs).1.cells⟩, .agg ⟨[.int .i64 (decS bs).2.1, .int .i64 (decS bs).2.2]⟩]⟩ ∧ Fr (fun _ => False) h h') (fun _ _ => False) := by
  refine zvQ_runs ?_
  refine stpP ?_
  have hf0 : Fr (fun _ => False) h ((h.push (.cells (.string ⟨⟨[]⟩⟩ :: .int .i64 0 :: .int .i64 0 :: (z32 ++ (z32 ++ (z32 ++ z32)))) 0)).push (.cells [.int .i64 0, .int .i64 0] 0)) := Fr.refl.push.push
  refine O.call' (NewReader_ok (hv.keep hf0 fun _ _ => id) hs) (fun r h1 hr => ?_)
  obtain ⟨p, sv, rfl, hp1, hsv, hr1, hf1⟩ := hr
  simp only [Heap.n_push] at hp1 hsv
  haveI : HGet h1 h.n _ := hf1.keep (b := h.n) (HGet.push (k := BLt.new) (g := HGet.new)) (by simp; omega) id
  haveI : HGet h1 (h.push (.cells (.string ⟨⟨[]⟩⟩ :: .int .i64 0 :: .int .i64 0 :: (z32 ++ (z32 ++ (z32 ++ z32)))) 0)).n _ := hf1.keep (b := (h.push (.cells (.string ⟨⟨[]⟩⟩ :: .int .i64 0 :: .int .i64 0 :: (z32 ++ (z32 ++ (z32 ++ z32)))) 0)).n) HGet.new (by simp) id
  have hf01 := hf0.trans' hf1
  refine stpP ?_
  refine O.call' (Text_run (most := 32) hr1 (by omega)) (fun r h2 hr => ?_)
  obtain ⟨hf2, rfl, hr2⟩ := hr
  refine stpP ?_
  refine O.call' (Num_run hr2) (fun r h3 hr => ?_)
  obtain ⟨hf3, rfl, hr3⟩ := hr
  refine stpP ?_
  refine O.call' (Num_run hr3) (fun r h4 hr => ?_)
  obtain ⟨hf4, rfl, hr4⟩ := hr
  refine stpP ?_
  have hf24 : Fr (fun i => i = p) h1 h4 := hf2.trans' (hf3.trans' hf4)
  have hn14 := hf24.n
  have hp1' := hr1.lt
  have hown : ∀ i, ownedBy sv i → i < h4.n := fun i hi => Nat.lt_of_lt_of_le (hr1.own_lt hi) hn14
  generalize hy : ((⟨(rd (bytesS bs 32) [] ⟨0, 0, 0⟩).1, (rd (numS bs) 0 (rd (bytesS bs 32) [] ⟨0, 0, 0⟩).2).1, (rd (numS bs) 0 (rd (numS bs) 0 (rd (bytesS bs 32) [] ⟨0, 0, 0⟩).2).2).1, zb32, zb32, zb32, zb32⟩, (rd (numS bs) 0 (rd (numS bs) 0 (rd (bytesS bs 32) [] ⟨0, 0, 0⟩).2).2).2) : Hd × RSt) = y
  have hyD : headD bs = y := by rw [← hy]; rfl
  have hyok : y.1.ok := by rw [← hy]; exact ⟨rfl, rfl, rfl, rfl⟩
  have hg : (h4.push (.cells y.1.cells 0)).get h4.n = .cells y.1.cells 0 := by rw [Heap.get_push, if_pos rfl]
  have hr4 : PRs h4 p sv bs y.2 := by rw [← hy]; exact hr4
  have hA : (Value.string ⟨⟨(rd (bytesS bs 32) [] ⟨0, 0, 0⟩).1⟩⟩ :: Value.int .i64 ((rd (numS bs) 0 (rd (bytesS bs 32) [] ⟨0, 0, 0⟩).2).1 : Nat) :: Value.int .i64 ((rd (numS bs) 0 (rd (numS bs) 0 (rd (bytesS bs 32) [] ⟨0, 0, 0⟩).2).2).1 : Nat) :: (z32 ++ (z32 ++ (z32 ++ z32)))) = y.1.cells := by rw [← hy]
  rw [hA]
  refine O.call' (hashes_ok (x := y.1) hg (by simp)) (fun r h5 hr => ?_)
  obtain ⟨rfl, hf5⟩ := hr
  have hn5 := hf5.n
  simp only [Heap.n_push] at hn5
  have hf45 : Fr (fun _ => False) h4 h5 := Fr.trans (S := fun _ => False) Fr.refl.push hf5 fun _ _ h => h
  have hf15 : Fr (fun i => i = p ∨ i = h4.n) h1 h5 := Fr.trans (S := fun i => i = p ∨ i = h4.n) (hf24.mono fun _ _ h => .inl h) hf45 fun _ _ h => h.elim
  have hg5 : h5.get h4.n = .cells y.1.cells 0 := by rw [hf5.get _ (by simp) id, hg]
  refine stpP ?_
  refine zvQ_l0_rule (fun m v19 h' => ∃ k : Nat, k ≤ 4 ∧ m = 4 - k ∧ v19 = .int .i64 k ∧ h'.get h4.n = .cells (stepD bs k y).1.cells 0 ∧ PRs h' p sv bs (stepD bs k y).2 ∧ Fr (fun i => i = p ∨ i = h4.n) h5 h') ?_ 4 ⟨0, by omega, rfl, rfl, hg5, hr4.none hf45, Fr.refl⟩
  rintro m v19 h6 x7 x20 x21 x22 x23 x24 x25 x26 ⟨k, hk, rfl, rfl, hg6, hr6, hf6⟩
  have hok6 := stepD_ok (bs := bs) hyok k
  have hn6 := hf6.n
  have hstep : stepD bs (k + 1) y = (setH k (stepD bs k y).1 (rd (partS 32 bs) zb32 (stepD bs k y).2).1, (rd (partS 32 bs) zb32 (stepD bs k y).2).2) := rfl
  generalize hX : stepD bs k y = z at *
  obtain ⟨X, st⟩ := z
  simp only at hg6 hr6 hok6 hstep
  haveI := l32 hok6.prev
  haveI := l32 hok6.vals
  haveI := l32 hok6.next
  haveI := l32 hok6.app
  have body : ∀ {h7 : Heap} {l : List UInt8} {c : List Value}, Fr (fun i => i = p) h6 h7 → PRs h7 p sv bs (stepD bs (k + 1) y).2 → c = (stepD bs (k + 1) y).1.cells →
      (h7.set h4.n (.cells c 0)).get h4.n = .cells (stepD bs (k + 1) y).1.cells 0 ∧ PRs (h7.set h4.n (.cells c 0)) p sv bs (stepD bs (k + 1) y).2 ∧ Fr (fun i => i = p ∨ i = h4.n) h5 (h7.set h4.n (.cells c 0)) := fun {h7 l c} hf7 hr7 hc => by
    refine ⟨by rw [Heap.get_set, if_pos rfl, hc], hr7.keep (S := fun i => i = h4.n) (Fr.refl.set fun _ => rfl) (by omega) fun i hi h => ?_, Fr.set (hf6.trans' (hf7.mono fun _ _ h => .inl h)) fun _ => .inr rfl⟩
    have := hown i hi
    omega
  rcases (show k = 0 ∨ k = 1 ∨ k = 2 ∨ k = 3 ∨ k = 4 by omega) with rfl | rfl | rfl | rfl | rfl
  · refine stpP ?_
    refine O.how (XOp.mkIndex1 (m := 0) 0 rfl (by omega) rfl) ?_
    refine stpP ?_
    refine O.call' (Hash_run hr6) (fun r h7 hr => ?_)
    obtain ⟨hf7, ⟨rfl, hl7⟩, hr7⟩ := hr
    haveI := l32 hl7
    haveI : HGet h7 h4.n _ := hf7.keep (b := h4.n) ⟨hg6⟩ (by omega) (by omega)
    refine stpP ?_
    obtain ⟨b1, b2, b3⟩ := body (l := []) hf7 (by rw [hstep]; exact hr7) (by rw [hstep])
    exact zvQ_l0_again 3 (by omega) ⟨1, by omega, rfl, rfl, b1, b2, b3⟩
  · refine stpP ?_
    refine O.how (XOp.mkIndex1 (m := 1) 1 rfl (by omega) rfl) ?_
    refine stpP ?_
    refine O.call' (Hash_run hr6) (fun r h7 hr => ?_)
    obtain ⟨hf7, ⟨rfl, hl7⟩, hr7⟩ := hr
    haveI := l32 hl7
    haveI : HGet h7 h4.n _ := hf7.keep (b := h4.n) ⟨hg6⟩ (by omega) (by omega)
    refine stpP ?_
    obtain ⟨b1, b2, b3⟩ := body (l := []) hf7 (by rw [hstep]; exact hr7) (by rw [hstep])
    exact zvQ_l0_again 2 (by omega) ⟨2, by omega, rfl, rfl, b1, b2, b3⟩
  · refine stpP ?_
    refine O.how (XOp.mkIndex1 (m := 2) 2 rfl (by omega) rfl) ?_
    refine stpP ?_
    refine O.call' (Hash_run hr6) (fun r h7 hr => ?_)
    obtain ⟨hf7, ⟨rfl, hl7⟩, hr7⟩ := hr
    haveI := l32 hl7
    haveI : HGet h7 h4.n _ := hf7.keep (b := h4.n) ⟨hg6⟩ (by omega) (by omega)
    refine stpP ?_
    obtain ⟨b1, b2, b3⟩ := body (l := []) hf7 (by rw [hstep]; exact hr7) (by rw [hstep])
    exact zvQ_l0_again 1 (by omega) ⟨3, by omega, rfl, rfl, b1, b2, b3⟩
  · refine stpP ?_
    refine O.how (XOp.mkIndex1 (m := 3) 3 rfl (by omega) rfl) ?_
    refine stpP ?_
    refine O.call' (Hash_run hr6) (fun r h7 hr => ?_)
    obtain ⟨hf7, ⟨rfl, hl7⟩, hr7⟩ := hr
    haveI := l32 hl7
    haveI : HGet h7 h4.n _ := hf7.keep (b := h4.n) ⟨hg6⟩ (by omega) (by omega)
    refine stpP ?_
    obtain ⟨b1, b2, b3⟩ := body (l := []) hf7 (by rw [hstep]; exact hr7) (by rw [hstep])
    exact zvQ_l0_again 0 (by omega) ⟨4, by omega, rfl, rfl, b1, b2, b3⟩
  · refine stpP ?_
    refine O.call' (End_run hr6) (fun r h7 hr => ?_)
    obtain ⟨rfl, hf7⟩ := hr
    have hn7 := hf7.n
    haveI : BLt h4.n h7 := ⟨by omega⟩
    have hn11 := hf1.n
    simp only [Heap.n_push] at hn11
    haveI : BLt h.n h7 := ⟨by omega⟩
    haveI : BLt (h.push (.cells (.string ⟨⟨[]⟩⟩ :: .int .i64 0 :: .int .i64 0 :: (z32 ++ (z32 ++ (z32 ++ z32)))) 0)).n h7 := ⟨by simp only [Heap.n_push]; omega⟩
    have hf17 : Fr (fun i => i = p ∨ i = h4.n) h1 h7 := hf15.trans' (hf6.trans' (hf7.mono fun _ _ h => h.elim))
    have hn01 := hf01.n
    have hfh7 : Fr (fun _ => False) h h7 := Fr.trans (S := fun _ => False) hf01 hf17 fun i hi h => by omega
    haveI : HGet h7 h4.n (.cells X.cells 0) := hf7.keep (b := h4.n) ⟨hg6⟩ (by omega) id
    haveI : HGet h7 h.n _ := hf17.keep (b := h.n) inferInstance (by omega) (by omega)
    haveI : HGet h7 (h.push (.cells (.string ⟨⟨[]⟩⟩ :: .int .i64 0 :: .int .i64 0 :: (z32 ++ (z32 ++ (z32 ++ z32)))) 0)).n _ := hf17.keep (b := (h.push (.cells (.string ⟨⟨[]⟩⟩ :: .int .i64 0 :: .int .i64 0 :: (z32 ++ (z32 ++ (z32 ++ z32)))) 0)).n) inferInstance (by simp; have := hf1.n; simp at this; omega) (by simp; omega)
    refine stpP ?_
    have hdec : decS bs = (let f := endS bs st; let g := if f = (0, 0) then (checkS X, 0) else f; if g = (0, 0) then (X, (0, 0)) else (zeroHd, g)) := by
      unfold decS
      rw [hyD, hX]
    rw [hdec]
    rw [same_fault]
    generalize hF : endS bs st = F at *
    obtain ⟨e, a⟩ := F
    refine C.if (fun hz => ?_) (fun hz => ?_)
    · obtain ⟨he, ha⟩ := Prod.mk.inj hz
      subst he ha
      refine stpP ?_
      refine O.call' (Check_ok hok6) (fun r h8 hr => ?_)
      obtain ⟨rfl, hf8⟩ := hr
      haveI : HGet h8 h7.n _ := hf8.keep (b := h7.n) HGet.new (by simp) id
      haveI : HGet h8 h4.n _ := hf8.keep (b := h4.n) (HGet.push (o := .cells X.cells 0)) (by simp; omega) id
      haveI : HGet h8 h.n _ := hf8.keep (b := h.n) inferInstance (by simp; omega) id
      haveI : HGet h8 (h.push (.cells (.string ⟨⟨[]⟩⟩ :: .int .i64 0 :: .int .i64 0 :: (z32 ++ (z32 ++ (z32 ++ z32)))) 0)).n _ := hf8.keep (b := (h.push (.cells (.string ⟨⟨[]⟩⟩ :: .int .i64 0 :: .int .i64 0 :: (z32 ++ (z32 ++ (z32 ++ z32)))) 0)).n) inferInstance (by simp; omega) id
      haveI : BNe h4.n h7.n := ⟨by omega⟩
      haveI : BNe h.n h7.n := ⟨by omega⟩
      haveI : BNe (h.push (.cells (.string ⟨⟨[]⟩⟩ :: .int .i64 0 :: .int .i64 0 :: (z32 ++ (z32 ++ (z32 ++ z32)))) 0)).n h7.n := ⟨by simp; omega⟩
      haveI : BNe (h.push (.cells (.string ⟨⟨[]⟩⟩ :: .int .i64 0 :: .int .i64 0 :: (z32 ++ (z32 ++ (z32 ++ z32)))) 0)).n h.n := ⟨by simp⟩
      haveI : BNe h7.n h.n := ⟨by omega⟩
      haveI : BNe h.n (h.push (.cells (.string ⟨⟨[]⟩⟩ :: .int .i64 0 :: .int .i64 0 :: (z32 ++ (z32 ++ (z32 ++ z32)))) 0)).n := ⟨by simp⟩
      haveI : BNe h4.n h.n := ⟨by omega⟩
      have hfh8 : Fr (fun _ => False) h h8 := hfh7.trans' (Fr.trans (S := fun _ => False) Fr.refl.push hf8 fun _ _ h => h)
      refine stpP ?_
      rw [same_fault]
      refine C.ifN (fun hc => ?_) (fun hc => ?_)
      · refine stpP ?_
        simp only [if_true]
        rw [if_neg hc]
        exact ⟨rfl, Fr.set (Fr.set (Fr.set hfh8 fun hlt => by omega) fun hlt => by omega) fun hlt => by simp at hlt; omega⟩
      · refine stpP ?_
        simp only [if_true]
        rw [if_pos hc]
        have h0 : checkS X = 0 := by injection hc
        rw [h0]
        exact ⟨rfl, Fr.set (Fr.set (Fr.set hfh8 fun hlt => by omega) fun hlt => by omega) fun hlt => by simp at hlt; omega⟩
    · refine stpP ?_
      rw [same_fault]
      refine C.ifN (fun hc => ?_) (fun hc => absurd hc hz)
      refine stpP ?_
      simp only [if_neg hz]
      exact ⟨rfl, Fr.set (Fr.set hfh7.push fun hlt => by omega) fun hlt => by simp at hlt; omega⟩
end Go.Proofs.YtbmpalbdbcjieaaGreat.A

namespace Go.Proofs.YtbmpalbdbcjieaaGreat.A
open Go Go.Vm
set_option maxRecDepth 10000
set_option linter.unusedVariables false
theorem fits_bytes {h : Heap} {m : Nat} {te : TypeId} {c : List Value} {len : Nat} (hu : Tryz.prog.underlying te = some (.int .u8)) (hs : Tryz.prog.cellsOf te = 1) (hl : c.length = len * Tryz.prog.cellsOf te) (hall : ∀ i, i < len → Fits Tryz.prog h (m + 1) te ((c.drop (i * Tryz.prog.cellsOf te)).take (Tryz.prog.cellsOf te))) : ∃ bs : List UInt8, c = bcells bs ∧ bs.length = len := by
  rw [hs, Nat.mul_one] at hl
  induction c generalizing len with
  | nil => exact ⟨[], rfl, by simpa using hl⟩
  | cons v c ih =>
    cases len with
    | zero => simp at hl
    | succ len =>
      have h0 := hall 0 (by omega)
      rw [hs] at h0
      unfold Fits at h0
      rw [hu] at h0
      simp only [Nat.zero_mul, List.drop_zero, List.take_succ_cons, List.take_zero] at h0
      obtain ⟨x, hx, hwf⟩ := h0
      injection hx with hx _
      obtain ⟨bs, rfl, hb⟩ := ih (len := len) (by simpa using hl) fun i hi => by
        have := hall (i + 1) (by omega)
        rw [hs] at this ⊢
        simpa using this
      have hr : 0 ≤ x ∧ x ≤ 255 := by
        simp [Lit.wf, IntKind.min, IntKind.max, IntKind.signed, IntKind.bits] at hwf
        omega
      refine ⟨UInt8.ofNat x.toNat :: bs, ?_, by simp [hb]⟩
      rw [hx]
      show Value.int .u8 x :: bcells bs = Value.int .u8 ((UInt8.ofNat x.toNat).toNat : Nat) :: bcells bs
      rw [u8nat (by omega)]
      congr 2
      omega
theorem fits_slice {h : Heap} {m : Nat} {t te : TypeId} {v : Value} (ht : Tryz.prog.underlying t = some (.slice te)) (hu : Tryz.prog.underlying te = some (.int .u8)) (hs : Tryz.prog.cellsOf te = 1) (hv : FitsV Tryz.prog h (m + 2) t v) : ∃ bs : List UInt8, Rd h 1 v (bcells bs) bs.length := by
  unfold FitsV at hv
  rw [ht] at hv
  unfold Fits at hv
  rw [ht] at hv
  rcases hv with hv | ⟨b, len, cap, c, hv, hb, hlc, hcap, hro, hl, hall⟩
  · injection hv with hv
    subst hv
    exact ⟨[], Rd.nil⟩
  · injection hv with hv
    subst hv
    obtain ⟨bs, rfl, hbl⟩ := fits_bytes hu hs hl hall
    refine ⟨bs, _, _, by rw [hbl], by simp [bcells], fun hn => ⟨b, 0, none, rfl, hb, ?_⟩⟩
    rw [cellsAt_of (c := bcells bs) (by rw [hro (by omega)]; rfl) (by simp [bcells]), List.drop_zero, List.take_of_length_le (by simp [bcells])]
theorem decS_ok (bs : List UInt8) : (decS bs).1.ok := by
  have key : ∀ g : Int × Int, (if g = (0, 0) then ((stepD bs 4 (headD bs)).1, ((0 : Int), (0 : Int))) else (zeroHd, g)).1.ok := fun g => by
    split
    · exact stepD_ok (y := headD bs) ⟨rfl, rfl, rfl, rfl⟩ 4
    · exact zeroHd_ok
  exact key _
end Go.Proofs.YtbmpalbdbcjieaaGreat.A

namespace Go.Proofs.YtbmpalbdbcjieaaGreat.A
open Go Go.Vm
set_option maxRecDepth 10000
set_option linter.unusedVariables false
theorem one_val {h : Heap} {c : List Value} {es : Nat} (hc : c.length = 5) : newCells (h.push (.cells c es)) 5 [.int .u8 0, .int .u8 0, .int .u8 0, .int .u8 0, .int .i64 0] false (.slice (some ⟨h.n, 0, none⟩) 1 1) = some (1, c) :=
  (Rd.mk (size := 5) (n := 1) (cap := 1) (sp := none) (o := 0) (b := h.n) (c := c) (by simp) (by rw [cellsAt_of (c := c) (by rw [Heap.get_push, if_pos rfl]; rfl) (by omega), List.drop_zero, List.take_of_length_le (by omega)])).new _
set_option maxHeartbeats 2000000 in
theorem VDecode_ok {h : Heap} {v : Value} {bs : List UInt8} (hv : Rd h 1 v (bcells bs) bs.length) (hs : bs.length < 1048576) : Runs Tryz.prog T0 (.fn fn_zscQ) [v] h
    (fun r h' => ∃ sl, r = .tuple ⟨[sl, .agg ⟨[.int .i64 (decV bs).2.1, .int .i64 (decV bs).2.2]⟩]⟩ ∧ Own h' 5 sl (vcells (decV bs).1) (decV bs).1.length ∧ (∀ i, ownedBy sl i → h.n ≤ i) ∧ Fr (fun _ => False) h h') (fun _ _ => False) := by
  refine zscQ_runs ?_
  refine stpP ?_
  have hf0 : Fr (fun _ => False) h (h.push (.cells [.int .i64 0, .int .i64 0] 0)) := Fr.refl.push
  refine O.call' (NewReader_ok (hv.keep hf0 fun _ _ => id) hs) (fun r h1 hr => ?_)
  obtain ⟨p, sv, rfl, hp1, hsv, hr1, hf1⟩ := hr
  simp only [Heap.n_push] at hp1 hsv
  refine stpP ?_
  refine O.call' (Num_run hr1) (fun r h2 hr => ?_)
  obtain ⟨hf2, rfl, hr2⟩ := hr
  have hf01 : Fr (fun _ => False) h h1 := hf0.trans' hf1
  have hn01 := hf1.n
  simp only [Heap.n_push] at hn01
  have hn12 := hf2.n
  have hA1 : HGet h1 h.n (.cells [.int .i64 0, .int .i64 0] 0) := hf1.keep (b := h.n) HGet.new (by simp) id
  have hA2 : HGet h2 h.n (.cells [.int .i64 0, .int .i64 0] 0) := hf2.keep hA1 (by omega) (by omega)
  have hfh2 : Fr (fun _ => False) h h2 := Fr.trans (S := fun _ => False) hf01 hf2 fun i hi ho => by omega
  have hdec : decV bs = (if 64 < (rd (numS bs) 0 ⟨0, 0, 0⟩).1 then ([], (4, 0)) else
    let y := stepV bs (rd (numS bs) 0 ⟨0, 0, 0⟩).1 ([], (rd (numS bs) 0 ⟨0, 0, 0⟩).2)
    let f := endS bs y.2
    let g := if f = (0, 0) then (checkV y.1, 0) else f
    if g = (0, 0) then (y.1, (0, 0)) else ([], g)) := rfl
  rw [hdec]
  clear hdec
  generalize rd (numS bs) 0 ⟨0, 0, 0⟩ = n at *
  obtain ⟨n, st0⟩ := n
  simp only at hr2 ⊢
  haveI : BLt h.n h2 := ⟨by omega⟩
  haveI : HGet h2 h.n _ := hA2
  refine stpP ?_
  refine C.if (fun hbig => ?_) (fun hsm => ?_)
  · refine stpP ?_
    rw [if_pos (by omega)]
    exact ⟨_, rfl, .none, fun i hi => hi.elim, Fr.set hfh2 fun hlt => by omega⟩
  rw [if_neg (by omega)]
  refine stpP ?_
  have hp2 := hr2.lt
  have hsv2 : ∀ i, ownedBy sv i → i < h2.n := fun i hi => hr2.own_lt hi
  refine zscQ_l0_rule (fun m v2 v15 h' => ∃ k : Nat, k ≤ n ∧ m = n - k ∧ v15 = .int .i64 k ∧ Own h' 5 v2 (vcells (stepV bs k ([], st0)).1) k ∧ (∀ i, ownedBy v2 i → h2.n ≤ i) ∧ PRs h' p sv bs (stepV bs k ([], st0)).2 ∧ Fr (fun i => i = p) h2 h') ?_ n ⟨0, by omega, rfl, rfl, .none, fun i hi => hi.elim, hr2, Fr.refl⟩
  rintro m v2 v15 h3 x6 x16 x17 x18 x19 x20 x21 x22 x23 x24 x25 x26 x27 ⟨k, hk, rfl, rfl, ho, hnew, hr3, hf3⟩
  have hstep : stepV bs (k + 1) ([], st0) = ((stepV bs k ([], st0)).1 ++ [Val.of (rd (partS 4 bs) zb4 (stepV bs k ([], st0)).2).1 ((rd (numS bs) 0 (rd (partS 4 bs) zb4 (stepV bs k ([], st0)).2).2).1 : Nat)], (rd (numS bs) 0 (rd (partS 4 bs) zb4 (stepV bs k ([], st0)).2).2).2) := rfl
  have hlenk : (stepV bs k ([], st0)).1.length = k := by rw [stepV_len]; simp
  have hn23 := hf3.n
  refine stpP ?_
  refine C.if (fun hlt => ?_) (fun hge => ?_)
  · generalize stepV bs k ([], st0) = z at *
    obtain ⟨L, st⟩ := z
    simp only at ho hr3 hstep hlenk
    refine stpP ?_
    have k1 := Key_run hr3
    generalize rd (partS 4 bs) zb4 st = a at *
    obtain ⟨ak, st4⟩ := a
    refine O.call' k1 (fun r h4 hq => ?_)
    obtain ⟨hf4, ⟨rfl, hl⟩, hr4⟩ := hq
    simp only at hl hr4 hstep
    obtain ⟨a1, a2, a3, a4, rfl⟩ := four hl
    rw [bcells4]
    have hn34 := hf4.n
    refine stpP ?_
    have k2 := Num_run (hr4.none (Fr.refl.push (o := .cells [.int .u8 a1.toNat, .int .u8 a2.toNat, .int .u8 a3.toNat, .int .u8 a4.toNat, .int .i64 0] 0)))
    generalize rd (numS bs) 0 st4 = b at *
    obtain ⟨b, st5⟩ := b
    refine O.call' k2 (fun r h5 hq => ?_)
    obtain ⟨hf5, rfl, hr5⟩ := hq
    simp only at hr5 hstep
    have hn45 := hf5.n
    simp only [Heap.n_push] at hn45
    have hp4 := hr4.lt
    haveI : HGet h5 h4.n _ := hf5.keep (b := h4.n) HGet.new (by simp) (by omega)
    refine stpP ?_
    have hol := fun {i : Nat} (hi : ownedBy v2 i) => ho.lt hi
    have ho5 : Own h5 5 v2 (vcells L) k := ((ho.keep hf4 fun i hi h => by have := hnew i hi; omega).keep (S := fun _ => False) (Fr.refl.push) fun _ _ => id).keep hf5 fun i hi h => by have := hnew i hi; omega
    refine O.append ((ho5.keep (S := fun i => i = h4.n) (Fr.refl.set fun _ => rfl) fun i hi h => by have := hol hi; omega).keep (S := fun _ => False) Fr.refl.push fun _ _ => id) (one_val rfl) rfl rfl (by omega) (by omega) (by omega) (fun v6 h6 ho6 hf6 hn6 => ?_)
    refine stpP ?_
    have hf56 : Fr (fun i => i = h4.n ∨ ownedBy v2 i) h5 h6 := Fr.trans (S := fun i => i = h4.n ∨ ownedBy v2 i) (Fr.refl.set fun _ => .inl rfl).push hf6 fun i _ hi => .inr hi
    refine zscQ_l0_again (n - (k + 1)) (by omega) ⟨k + 1, by omega, rfl, rfl, ?_, fun i hi => ?_, ?_, ?_⟩
    · rw [hstep]
      simp only
      rw [vcells_append]
      exact ho6
    · rcases hn6 i hi with h7 | h7
      · exact hnew i h7
      · simp at h7; omega
    · rw [hstep]
      refine hr5.keep hf56 (fun h => ?_) fun i hi h => ?_
      · rcases h with h | h
        · omega
        · have := hnew p h; omega
      · have := hsv2 i hi
        rcases h with h | h
        · omega
        · have := hnew i h; omega
    · have hf35 : Fr (fun i => i = p) h3 h5 := Fr.trans (S := fun i => i = p) hf4 (Fr.trans (S := fun i => i = p) Fr.refl.push hf5 fun _ _ h => h) fun _ _ h => h
      refine Fr.trans (S := fun i => i = p) hf3 (Fr.trans (S := fun i => i = p ∨ ownedBy v2 i) (hf35.mono fun _ _ h => .inl h) hf56 fun i hi h => ?_) fun i hi h => ?_
      · rcases h with h | h
        · omega
        · exact .inr h
      · rcases h with h | h
        · exact h
        · have := hnew i h; omega
  · obtain rfl : k = n := by omega
    have hA3 : HGet h3 h.n (.cells [.int .i64 0, .int .i64 0] 0) := hf3.keep hA2 (by omega) (by omega)
    haveI : HGet h3 h.n _ := hA3
    have hfh3 : Fr (fun _ => False) h h3 := Fr.trans (S := fun _ => False) hfh2 hf3 fun i hi ho => by omega
    generalize stepV bs k ([], st0) = z at *
    obtain ⟨L, st⟩ := z
    simp only at ho hr3 hlenk ⊢
    refine stpP ?_
    have k3 := End_run hr3
    generalize endS bs st = F at *
    obtain ⟨e, a⟩ := F
    refine O.call' k3 (fun r h4 hr => ?_)
    obtain ⟨rfl, hf4⟩ := hr
    have hn34 := hf4.n
    haveI : HGet h4 h.n _ := hf4.keep hA3 (by omega) id
    haveI : BLt h.n h4 := ⟨by omega⟩
    have hfh4 : Fr (fun _ => False) h h4 := hfh3.trans' hf4
    have ho4 : Own h4 5 (v2) (vcells L) k := ho.keep hf4 fun _ _ => id
    have hset : ∀ {o : AObj}, Own (h4.set h.n o) 5 v2 (vcells L) k := fun {o} => ho4.keep (S := fun i => i = h.n) (Fr.refl.set fun _ => rfl) fun i hi h => by have := hnew i hi; omega
    refine stpP ?_
    rw [same_fault]
    refine C.if (fun hz => ?_) (fun hz => ?_)
    · obtain ⟨he, ha⟩ := Prod.mk.inj hz
      subst he ha
      refine stpP ?_
      refine O.call' (VCheck_ok (l := L) (by rw [hlenk]; exact hset.rd)) (fun r h5 hr => ?_)
      obtain ⟨rfl, hf5⟩ := hr
      have hn45 := hf5.n
      simp only [Heap.n_set] at hn45
      haveI : HGet h5 h.n _ := hf5.keep (b := h.n) .same (by simp; omega) id
      haveI : BLt h.n h5 := ⟨by omega⟩
      have hfh5 : Fr (fun _ => False) h h5 := Fr.trans (S := fun _ => False) (Fr.set hfh4 fun hlt => by omega) hf5 fun _ _ h => h
      have ho5 : Own h5 5 v2 (vcells L) k := hset.keep hf5 fun _ _ => id
      refine stpP ?_
      rw [same_fault]
      refine C.ifN (fun hc => ?_) (fun hc => ?_)
      · refine stpP ?_
        simp only [if_true]
        rw [if_neg hc]
        exact ⟨_, rfl, .none, fun i hi => hi.elim, Fr.set hfh5 fun hlt => by omega⟩
      · have h0 : checkV L = 0 := by injection hc
        rw [h0]
        refine stpP ?_
        refine D.oneS ?_
        refine stpP ?_
        simp only [if_true]
        refine ⟨_, rfl, ?_, fun i hi => ?_, Fr.set hfh5 fun hlt => by omega⟩
        · rw [hlenk]
          exact ho5.keep (S := fun i => i = h.n) (Fr.refl.set fun _ => rfl) fun i hi h => by have := hnew i hi; omega
        · have := hnew i hi
          omega
    · refine stpP ?_
      rw [same_fault]
      refine C.ifN (fun hc => ?_) (fun hc => absurd hc hz)
      refine stpP ?_
      simp only [if_neg hz]
      exact ⟨_, rfl, .none, fun i hi => hi.elim, Fr.set hfh4 fun hlt => by omega⟩
end Go.Proofs.YtbmpalbdbcjieaaGreat.A

namespace Go.Proofs.YtbmpalbdbcjieaaGreat.A
open Go Go.Vm
set_option maxRecDepth 10000
set_option linter.unusedVariables false
theorem Kept_code {h : Heap} {q c' : Nat} {l : List UInt8} {u : Value} (hq : h.get q = .ro (bcells l ++ bcells lentTail)) (hlt : q < h.n) (hc : l.length + 4 ≤ c') (hs : l.length < 1048576) (hu : Rd h 1 u (bcells l) l.length) :
    Runs Tryz.prog (tableOf  Tryz.prog) (.fn fn_zgbQ) [.slice (some ⟨q, 0, none⟩) l.length c', u] h (fun r _ => r = .bool true) (fun _ _ => False) := by
  have hu' := hu
  obtain ⟨au, capu, rfl, _, _⟩ := hu
  have hcells : (h.get q).cellsOf = some (bcells l ++ bcells lentTail) := by rw [hq]; rfl
  have hlen : (bcells l ++ bcells lentTail).length = l.length + 4 := by simp [bcells, lentTail]
  have hbl : (bcells l).length = l.length := by simp [bcells]
  have hv : Rd h 1 (.slice (some ⟨q, 0, none⟩) l.length c') (bcells l) l.length := Rd.mk hlt (by
    rw [Nat.mul_one, cellsAt_of hcells (by omega), List.drop_zero, ← hbl, List.take_left])
  refine zgbQ_runs ?_
  refine stpP ?_
  refine O.by (v := .slice (some ⟨q, 0, none⟩) c' c') (h' := h) ?_ rfl ?_
  · show sliceOf _ 1 (.slice (some ⟨q, 0, none⟩) l.length c') none (some _) none _ = _
    simp only [sliceOf, bnd, eval, lget]
    rw [show idx (c' + 1) (.int .i64 ((c' : Nat) : Int)) = some c' from by rw [idx_in (by omega)]; simp]
    simp
  refine stpP ?_
  refine D.dec (fun _ => ?_) (fun h => absurd rfl h)
  refine stpP ?_
  refine D.howT (XOp.mkStr hv) rfl ?_
  refine stpP ?_
  refine D.howT (XOp.mkStr hu') rfl ?_
  refine stpP ?_
  refine D.decB (fun _ => ?_) (fun h => absurd h (by simp))
  refine stpP ?_
  refine D.dec (fun _ => ?_) (fun h => by omega)
  refine stpP ?_
  have hsl : ∀ (ts : List Value) (h' : Heap) (x y z : Operand), eval ts x = .slice (some ⟨q, 0, none⟩) c' c' → eval ts y = .int .i64 l.length → eval ts z = .int .i64 (l.length + 4 : Int) →
      XOp Tryz.prog ts h' (.sliceSl 1 x (some y) (some z) none) (.slice (some ⟨q, l.length, none⟩) 4 (c' - l.length)) h' := fun ts h' x y z e1 e2 e3 => ⟨rfl, by
    simp only [xop, e1, sliceOf, bnd, e2, e3]
    rw [show idx (c' + 1) (.int .i64 ((l.length : Int) + 4)) = some (l.length + 4) from by rw [idx_in (by omega)]; congr 1]
    simp only
    rw [show idx (l.length + 4 + 1) (.int .i64 (l.length : Int)) = some l.length from by rw [idx_in (by omega)]; simp]
    simp only
    rw [if_neg (by omega), if_neg (by omega)]
    simp⟩
  refine D.howT (hsl _ _ _ _ _ rfl rfl rfl) rfl ?_
  have hv2 : ∀ {h' : Heap}, Fr (fun _ => False) h h' → Rd h' 1 (.slice (some ⟨q, l.length, none⟩) 4 (c' - l.length)) (bcells lentTail) 4 := fun {h'} hf => (Rd.mk hlt (by
    rw [cellsAt_of hcells (by omega), ← hbl, List.drop_left]; rfl)).keep hf fun _ _ => id
  refine D.howT (XOp.mkStr (bs := lentTail) (hv2 Fr.refl)) rfl ?_
  refine D.oneT ?_ ?_
  · refine stab_consT (XOp.mkStr (bs := lentTail) (hv2 Fr.refl.push)) ?_
    refine stab_consT (hsl _ _ _ _ _ rfl rfl rfl) ?_
    refine stab_consT (XOp.addI (by omega)) ?_
    exact StabL.ok
  have hv3 : Rd (h.push (.cells [.int .u8 201, .int .u8 202, .int .u8 203, .int .u8 204] 0)) 1 (.slice (some ⟨h.n, 0, none⟩) 4 4) (bcells lentTail) 4 := rd_lit rfl
  refine D.howT (XOp.mkStr (bs := lentTail) hv3) rfl ?_
  refine stpP ?_
  simp [lentTail]
structure Lent (h : Heap) (lo : Nat) (v : Value) (l : List UInt8) : Prop where
  ex : ∃ q k cap j, v = .slice (some ⟨q, 0, some k⟩) l.length cap ∧ h.get q = .cells (bcells l ++ (bcells lentTail ++ j)) 1 ∧ l.length + 4 ≤ cap ∧ (l.length + (4 + j.length)) = cap ∧ lo ≤ q ∧ q < h.n
theorem Lent.rd {h : Heap} {lo : Nat} {v : Value} {l : List UInt8} (hv : Lent h lo v l) : Rd h 1 v (bcells l) l.length := by
  obtain ⟨q, k, cap, j, rfl, hq, hc, _, _, hlt⟩ := hv.ex
  refine Rd.mk hlt ?_
  have hbl : (bcells l).length = l.length := by simp [bcells]
  rw [Nat.mul_one, cellsAt_of (c := bcells l ++ (bcells lentTail ++ j)) (by rw [hq]; rfl) (by simp only [List.length_append, hbl]; omega), List.drop_zero, ← hbl, List.take_left]
theorem Lent.keep {S : Nat → Prop} {h h' : Heap} {lo : Nat} {v : Value} {l : List UInt8} (hv : Lent h lo v l) (hf : Fr S h h') (hs : ∀ i, S i → i < lo ∨ h.n ≤ i) : Lent h' lo v l := by
  obtain ⟨q, k, cap, j, rfl, hq, hc, hc2, hlo, hlt⟩ := hv.ex
  exact ⟨q, k, cap, j, rfl, by rw [hf.get q hlt fun h => by have := hs _ h; omega, hq], hc, hc2, hlo, hf.lt hlt⟩
theorem Lent.kept {h : Heap} {lo : Nat} {v w : Value} {l : List UInt8} (hv : Lent h lo v l) (hw : Rd h 1 w (bcells l) l.length) (hs : l.length < 1048576) : KeptPre [v, w] h := by
  obtain ⟨q, k, cap, j, rfl, hq, hc, _, _, _⟩ := hv.ex
  exact ⟨q, k, cap, l, w, j, rfl, hq, hc, hw, hs⟩
theorem LentBytes_ok {h : Heap} {v : Value} {l : List UInt8} (hr : Rd h 1 v (bcells l) l.length) (hs : l.length + 4 < 1048576) :
    Runs Tryz.prog T0 (.fn fn_zhbQ) [v] h (fun r h' => Lent h' h.n r l ∧ Fr (fun _ => False) h h') (fun _ _ => False) := by
  have hr' := hr
  obtain ⟨a0, cap0, rfl, _, _⟩ := hr
  refine zhbQ_runs ?_
  refine stpP ?_
  have hz : Own (h.push (.cells [] 0)) 1 (.slice (some ⟨h.n, 0, none⟩) 0 0) [] 0 := .lit (by simp) (by rw [Heap.get_push, if_pos rfl])
  refine O.append hz ((hr'.keep (S := fun _ => False) Fr.refl.push fun _ _ => id).new [.int .u8 0]) (by rw [bcells_len]; omega) (bcells_one l) (by omega) (by omega) (by omega) (fun v1 h1 ho1 hf1 hn1 => ?_)
  rw [Nat.zero_add, List.nil_append] at ho1
  refine stpP ?_
  have hlit : newCells (h1.push (.cells [.int .u8 201, .int .u8 202, .int .u8 203, .int .u8 204] 0)) 1 [.int .u8 0] false (.slice (some ⟨h1.n, 0, none⟩) 4 4) = some (4, bcells lentTail) := (rd_lit rfl).new [.int .u8 0]
  refine O.append (ho1.keep (S := fun _ => False) Fr.refl.push fun _ _ => id) hlit rfl (bcells_one _) (by omega) (by omega) (by omega) (fun v2 h2 ho2 hf2 hn2 => ?_)
  have hnew1 : ∀ i, ownedBy v1 i → h.n ≤ i := fun i hi => by
    rcases hn1 i hi with h3 | h3
    · have : h.n = i := h3
      omega
    · simp at h3; omega
  have hfr1 : Fr (fun _ => False) h h1 := Fr.trans (S := fun _ => False) Fr.refl.push hf1 fun i hi ho => by
    have : h.n = i := ho
    omega
  have hnn1 := hfr1.n
  have hnew2 : ∀ i, ownedBy v2 i → h.n ≤ i := fun i hi => by
    rcases hn2 i hi with h3 | h3
    · exact hnew1 i h3
    · simp at h3; omega
  have hfr2 : Fr (fun _ => False) h h2 := Fr.trans (S := fun _ => False) hfr1 (Fr.trans (S := ownedBy v1) Fr.refl.push hf2 fun i _ ho => ho) fun i hi ho => by
    have := hnew1 i ho
    omega
  generalize hcc : bcells l ++ bcells lentTail = cc at ho2
  generalize hnn : l.length + 4 = nn at ho2
  cases ho2 with
  | none => omega
  | lit hq hg => omega
  | grown hq hn hle hl hl2 hg =>
    rename_i q k cap j
    subst hcc
    subst hnn
    refine stpP ?_
    refine O.by (v := .slice (some ⟨q, 0, some k⟩) l.length cap) (h' := h2) ?_ rfl ?_
    · show sliceOf _ 1 (.slice (some ⟨q, 0, some k⟩) (l.length + 4) cap) none (some _) none _ = _
      simp only [sliceOf, bnd, eval, lget]
      rw [show idx (cap + 1) (.int .i64 ((l.length : Nat) : Int)) = some l.length from by rw [idx_in (by omega)]; simp]
      simp only
      rw [if_neg (by omega), if_pos trivial]
    refine stpP ?_
    refine ⟨⟨q, k, cap, j, rfl, by rw [hg, List.append_assoc], hle, ?_, hnew2 q rfl, hq⟩, hfr2⟩
    simp only [List.length_append, bcells_len] at hl2
    simp [lentTail] at hl2
    omega
end Go.Proofs.YtbmpalbdbcjieaaGreat.A

namespace Go.Proofs.YtbmpalbdbcjieaaGreat.A
open Go Go.Vm
set_option maxRecDepth 10000
set_option linter.unusedVariables false
structure RR (h : Heap) (p : Nat) (sv : Value) (bs : List UInt8) (pl : Nat) (e fa : Int) : Prop where
  at_le : pl ≤ bs.length
  small : bs.length < 1048576
  lt : p < h.n
  get : h.get p = .cells [sv, .int .i64 pl, .int .i64 e, .int .i64 fa] 0
  own : Own h 1 sv (bcells bs) bs.length
  apart : ¬ ownedBy sv p
theorem RR.keep {S : Nat → Prop} {h h' : Heap} {p : Nat} {sv : Value} {bs : List UInt8} {pl : Nat} {e fa : Int} (hp : RR h p sv bs pl e fa) (hf : Fr S h h') (hs : ¬ S p) (hb : ∀ i, ownedBy sv i → ¬ S i) : RR h' p sv bs pl e fa :=
  ⟨hp.at_le, hp.small, hf.lt hp.lt, by rw [hf.get p hp.lt hs, hp.get], hp.own.keep hf hb, hp.apart⟩
theorem RR.none {h h' : Heap} {p : Nat} {sv : Value} {bs : List UInt8} {pl : Nat} {e fa : Int} (hp : RR h p sv bs pl e fa) (hf : Fr (fun _ => False) h h') : RR h' p sv bs pl e fa := hp.keep hf id fun _ _ => id
theorem RR.turn {h : Heap} {p : Nat} {sv : Value} {bs : List UInt8} {pl pl' : Nat} {e fa e' fa' : Int} (hp : RR h p sv bs pl e fa) (hl : pl' ≤ bs.length) :
    RR (h.set p (.cells [sv, .int .i64 pl', .int .i64 e', .int .i64 fa'] 0)) p sv bs pl' e' fa' :=
  ⟨hl, hp.small, by simpa using hp.lt, by rw [Heap.get_set, if_pos rfl], hp.own.keep (S := fun i => i = p) (Fr.refl.set fun _ => rfl) fun b hb hbp => hp.apart (hbp ▸ hb), hp.apart⟩
theorem Fails_ok {h : Heap} {p : Nat} {sv : Value} {bs : List UInt8} {pl : Nat} {e fa x a : Int} (hr : RR h p sv bs pl e fa) :
    Runs Tryz.prog T0 (.fn fn_zubQ) [.pointer (some ⟨p, 0, none⟩), .int .i64 x, .int .i64 a] h (fun r h' => (if e = 0 then RR h' p sv bs pl x a else RR h' p sv bs pl e fa) ∧ Fr (fun i => i = p) h h') (fun _ _ => False) := by
  haveI : HGet h p _ := ⟨hr.get⟩
  refine zubQ_runs ?_
  refine stpP ?_
  refine C.if (fun he => ?_) (fun he => ?_)
  · refine stpP ?_
    rw [if_pos he]
    exact ⟨hr.turn hr.at_le, Fr.refl.set fun _ => rfl⟩
  · refine stpP ?_
    rw [if_neg he]
    exact ⟨hr, Fr.refl⟩
theorem Rtake_bad {h : Heap} {p : Nat} {sv : Value} {bs : List UInt8} {pl : Nat} {e fa n a : Int} (hr : RR h p sv bs pl e fa) (he : e ≠ 0) :
    Runs Tryz.prog T0 (.fn fn_zbcQ) [.pointer (some ⟨p, 0, none⟩), .int .i64 n, .int .i64 a] h (fun r h' => r = .slice none 0 0 ∧ h' = h) (fun _ _ => False) := by
  haveI : HGet h p _ := ⟨hr.get⟩
  refine zbcQ_runs ?_
  refine stpP ?_
  refine C.ifN (fun _ => ?_) (fun h => absurd h he)
  refine stpP ?_
  exact ⟨rfl, rfl⟩
theorem Rtake_ok {h : Heap} {p : Nat} {sv : Value} {bs : List UInt8} {pl n : Nat} {a : Int} (hr : RR h p sv bs pl 0 0) :
    Runs Tryz.prog T0 (.fn fn_zbcQ) [.pointer (some ⟨p, 0, none⟩), .int .i64 n, .int .i64 a] h
      (fun r h' => Fr (fun i => i = p) h h' ∧ ((pl + n ≤ bs.length ∧ Own h' 1 r (bcells ((bs.drop pl).take n)) n ∧ (∀ i, ownedBy r i → h.n ≤ i) ∧ RR h' p sv bs (pl + n) 0 0) ∨ (bs.length < pl + n ∧ r = .slice none 0 0 ∧ RR h' p sv bs pl 6 a))) (fun _ _ => False) := by
  have hr' := hr
  obtain ⟨hle, hsm, hp, hget, hown, hnot⟩ := hr
  obtain ⟨a0, cap0, rfl, hlen, _⟩ := hown.rd
  haveI : HGet h p _ := ⟨hget⟩
  haveI : BLt p h := ⟨hp⟩
  refine zbcQ_runs ?_
  refine stpP ?_
  refine C.if (fun hlt => ?_) (fun hge => ?_)
  · refine stpP ?_
    refine O.call' (Fails_ok (x := 6) (a := a) hr') (fun r h1 hq => ?_)
    obtain ⟨hq, hf⟩ := hq
    rw [if_pos rfl] at hq
    refine stpP ?_
    exact ⟨hf, .inr ⟨by omega, rfl, hq⟩⟩
  · refine stpP ?_
    refine D.sliceA pl (pl + n) (by omega) hown (by omega) (by omega) (by omega) (by omega) (fun v' hbl hrd hag => ?_)
    rw [Nat.mul_one, Nat.mul_one, bcells_drop, bcells_take, Nat.add_sub_cancel_left] at hrd
    refine D.one ?_ ?_
    · refine stab_cons (hag _ _ rfl rfl rfl Fr.refl.push) ?_
      refine stab_cons (XOp.addI (by omega)) ?_
      repeat (refine stab_cons inferInstance ?_)
      rfl
    have hl : ((bs.drop pl).take n).length = n := by rw [List.length_take, List.length_drop]; omega
    have hz : Own (h.push (.cells [] 0)) 1 (.slice (some ⟨h.n, 0, none⟩) 0 0) [] 0 := .lit (by simp) (by rw [Heap.get_push, if_pos rfl])
    refine D.append hz ((hrd.keep (S := fun _ => False) Fr.refl.push fun _ _ => id).new [.int .u8 0]) (by rw [bcells_len]; omega) (bcells_one _) (by omega) (by omega) (by omega) (fun v1 h1 ho1 hf1 hn1 => ?_)
    rw [Nat.zero_add, List.nil_append] at ho1
    have hfr1 : Fr (fun _ => False) h h1 := Fr.trans (S := fun _ => False) Fr.refl.push hf1 fun i hi ho => by
      have : h.n = i := ho
      omega
    have hr1 := hr'.none hfr1
    haveI : HGet h1 p _ := ⟨hr1.get⟩
    have hnew1 : ∀ i, ownedBy v1 i → h.n ≤ i := fun i hi => by
      rcases hn1 i hi with h3 | h3
      · have : h.n = i := h3
        omega
      · simp at h3; omega
    refine stpP ?_
    refine ⟨Fr.set (hfr1.mono fun _ _ h => h.elim) fun _ => rfl, .inl ⟨by omega, ho1.keep (S := fun i => i = p) (Fr.refl.set fun _ => rfl) fun i hi hip => ?_, hnew1, hr1.turn (by omega)⟩⟩
    have := hnew1 i hi
    omega
end Go.Proofs.YtbmpalbdbcjieaaGreat.A
