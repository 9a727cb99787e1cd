/- Functions of the program, as the machine has them: written by a program of mine (GenVm.lean), each held against the given program by the kernel. -/
import Derived.Test.YtfpnmcogfamhaaaGreatQC1
set_option maxRecDepth 100000
set_option linter.unusedVariables false
namespace Go.Proofs.YtfpnmcogfamhaaaGreat.A
open Go Go.Vm
abbrev fn_header_hashes : FuncId := 85
noncomputable def header_hashes_c : ACode :=
 (.seq (.region [
 o1 2 (.alloc 135 [(.pointer none), (.pointer none), (.pointer none), (.pointer none)])]) (.seq (.regionD [
 o1 3 (.mov (tm 0)),
 o1 4 (.nilCheck (tm 3)),
 o1 5 (.fieldAddr 3 (tm 4)),
 o1 6 (.mov (tm 0)),
 o1 7 (.nilCheck (tm 6)),
 o1 8 (.fieldAddr 35 (tm 7)),
 o1 9 (.mov (tm 0)),
 o1 10 (.nilCheck (tm 9)),
 o1 11 (.fieldAddr 67 (tm 10)),
 o1 12 (.mov (tm 0)),
 o1 13 (.nilCheck (tm 12)),
 o1 14 (.fieldAddr 99 (tm 13)),
 o2 15 (.build [(.pointer none), (.pointer none), (.pointer none), (.pointer none)] [(0, 1, (tm 5)), (1, 1, (tm 8)), (2, 1, (tm 11)), (3, 1, (tm 14))]),
 ⟨none, .store 4 (tm 2) (tm 15), none, [], true⟩]) .ret))
noncomputable def header_hashes : AFunc := ⟨16, [(2, some (some 4))], header_hashes_c, none⟩
theorem header_hashes_t : T0 85 = some header_hashes := withKept_t rfl (withTrue_t rfl (by kernel_rfl : tableOf Tryz.prog 85 = some header_hashes))
theorem header_hashes_runs {v0 : Value} {h : Heap} {R : RP} {X : XP} (k : RunC Tryz.prog T0 header_hashes_c ⟨[v0, U, U, U, U, U, U, U, U, U, U, U, U, U, U, U], [], h, none⟩ (bodyQ Tryz.prog T0 [(2, some (some 4))] R X)) :
 Runs Tryz.prog T0 (.fn 85) [v0] h R X := Runs.fn header_hashes_t rfl k
abbrev fn_wire_Reader_Hash : FuncId := 86
noncomputable def wire_Reader_Hash_c : ACode :=
 (.seq (.region [
 o1 1 (.box 61 (tm 0)),
 o1 2 (.alloc 28 z32)]) (.seq (.region [
 o1 3 (.load none (tm 1)),
 o1 4 (.mkFunc (.func 124) [] [(tm 1)]),
 o1 5 (.callV (.func 123) [(tm 3), (tm 4)]),
 o3 (.store 32 (tm 2) (tm 5))]) .ret))
noncomputable def wire_Reader_Hash : AFunc := ⟨6, [(2, some (some 32))], wire_Reader_Hash_c, none⟩
theorem wire_Reader_Hash_t : T0 86 = some wire_Reader_Hash := withKept_t rfl (withTrue_t rfl (by kernel_rfl : tableOf Tryz.prog 86 = some wire_Reader_Hash))
theorem wire_Reader_Hash_runs {v0 : Value} {h : Heap} {R : RP} {X : XP} (k : RunC Tryz.prog T0 wire_Reader_Hash_c ⟨[v0, U, U, U, U, U], [], h, none⟩ (bodyQ Tryz.prog T0 [(2, some (some 32))] R X)) :
 Runs Tryz.prog T0 (.fn 86) [v0] h R X := Runs.fn wire_Reader_Hash_t rfl k
abbrev fn_header_Check : FuncId := 87
noncomputable def header_Check_l0 : ACode :=
 (.seq (.region [
 o1 8 (.bin .lss (so (.binOp .lss 3 (tm 7) (tm 6) 3) 0) (tm 7) (tm 6))]) (.seq (.cond (tm 8)
 .skip
 (.exit 0)) (.seq (.block 1 (.seq (.region [
 o1 9 (.indexSl 2 (tm 5) (tm 7)),
 o1 10 (.load (some 2) (tm 9)),
 o1 4 (.alloc 173 [.nilFunc, (.int .i64 0)]),
 o3 (.store 2 (tm 4) (tm 10))]) (.seq (.region [
 o1 11 (.fieldAddr 0 (tm 4)),
 o1 12 (.load none (tm 11)),
 o1 13 (.load (some 131) (tm 1)),
 o1 14 (.callV (tm 12) [(tm 13)]),
 o1 15 (.raw (so (.unOp .not 4 (tm 14)) 4))]) (.cond (tm 15)
 (.seq (.region [
 o1 16 (.fieldAddr 1 (tm 4)),
 o1 17 (.load none (tm 16)),
 o1 2 (.mov (tm 17))]) .ret)
 .skip)))) (.region [
 o1 18 (.bin .add (so (.binOp .add 3 (tm 7) (.const (.int .i64 1)) 3) 3) (tm 7) (.const (.int .i64 1))),
 o1 7 (.mov (tm 18))]))))
noncomputable def header_Check_c : ACode :=
 (.seq (.region [
 o1 1 (.box 30 (tm 0)),
 o1 2 (.mov k0)]) (.seq (.seq (.region [
 o1 5 (.callV (.func 127) []),
 o1 6 (.lenSl (tm 5)),
 o1 7 (.mov k0)]) (.block 0 (.loop header_Check_l0))) (.seq (.region [
 o1 2 (.mov k0)]) .ret)))
noncomputable def header_Check : AFunc := ⟨19, [(2, none)], header_Check_c, none⟩
theorem header_Check_t : T0 87 = some header_Check := withKept_t rfl (withTrue_t rfl (by kernel_rfl : tableOf Tryz.prog 87 = some header_Check))
theorem header_Check_runs {v0 : Value} {h : Heap} {R : RP} {X : XP} (k : RunC Tryz.prog T0 header_Check_c ⟨[v0, U, U, U, U, U, U, U, U, U, U, U, U, U, U, U, U, U, U], [], h, none⟩ (bodyQ Tryz.prog T0 [(2, none)] R X)) :
 Runs Tryz.prog T0 (.fn 87) [v0] h R X := Runs.fn header_Check_t rfl k
/-- the slots that turn in the loop: v7 -/
noncomputable def header_Check_l0_J (f0 f1 f3 f5 f6 : Value) (ds : List Deferred) (rd : Option Nat) (I : Nat → Value → Heap → Prop) (m : Nat) (s : St) : Prop := ∃ (v7 : Value), ∃ h : Heap, ∃ (x2 x4 x8 x9 x10 x11 x12 x13 x14 x15 x16 x17 x18 : Value), s = ⟨[f0, f1, x2, f3, x4, f5, f6, v7, x8, x9, x10, x11, x12, x13, x14, x15, x16, x17, x18], ds, h, rd⟩ ∧ I m v7 h
theorem header_Check_l0_rule {f0 f1 f3 f5 f6 : Value} {ds : List Deferred} {rd : Option Nat} {Q : QP} (I : Nat → Value → Heap → Prop) (hb : ∀ (m : Nat) (v7 : Value) (h : Heap) (x2 x4 x8 x9 x10 x11 x12 x13 x14 x15 x16 x17 x18 : Value) , I m v7 h → RunC Tryz.prog T0 header_Check_l0 ⟨[f0, f1, x2, f3, x4, f5, f6, v7, x8, x9, x10, x11, x12, x13, x14, x15, x16, x17, x18], ds, h, rd⟩ (loopQ (header_Check_l0_J f0 f1 f3 f5 f6 ds rd I) m Q))
 (m : Nat) {v7 : Value} {h : Heap} {x2 x4 x8 x9 x10 x11 x12 x13 x14 x15 x16 x17 x18 : Value} (hi : I m v7 h) : RunC Tryz.prog T0 (.loop header_Check_l0) ⟨[f0, f1, x2, f3, x4, f5, f6, v7, x8, x9, x10, x11, x12, x13, x14, x15, x16, x17, x18], ds, h, rd⟩ Q :=
 RunC.loopJ (header_Check_l0_J f0 f1 f3 f5 f6 ds rd I) (fun m s hj => by obtain ⟨v7, h, x2, x4, x8, x9, x10, x11, x12, x13, x14, x15, x16, x17, x18, rfl, hi⟩ := hj; exact hb m v7 h x2 x4 x8 x9 x10 x11 x12 x13 x14 x15 x16 x17 x18 hi) m _ ⟨_, h, _, _, _, _, _, _, _, _, _, _, _, _, _, rfl, hi⟩
theorem header_Check_l0_again {f0 f1 f3 f5 f6 : Value} {ds : List Deferred} {rd : Option Nat} {Q : QP} {I : Nat → Value → Heap → Prop} {m : Nat} (m' : Nat) {v7 : Value} {h : Heap} {x2 x4 x8 x9 x10 x11 x12 x13 x14 x15 x16 x17 x18 : Value} (hm : m' < m) (hi : I m' v7 h) : loopQ (header_Check_l0_J f0 f1 f3 f5 f6 ds rd I) m Q .normal ⟨[f0, f1, x2, f3, x4, f5, f6, v7, x8, x9, x10, x11, x12, x13, x14, x15, x16, x17, x18], ds, h, rd⟩ :=
 loopQ.again m' hm ⟨_, h, _, _, _, _, _, _, _, _, _, _, _, _, _, rfl, hi⟩
abbrev fn_wire_Reader_Word : FuncId := 88
noncomputable def wire_Reader_Word_c : ACode :=
 (.seq (.region [
 o1 1 (.box 61 (tm 0)),
 o1 2 (.mov (.const (.int .u64 0)))]) (.seq (.region [
 o1 3 (.load none (tm 1)),
 o1 4 (.mkFunc (.func 129) [] [(tm 1)]),
 o1 5 (.callV (.func 128) [(tm 3), (tm 4)]),
 o1 2 (.mov (tm 5))]) .ret))
noncomputable def wire_Reader_Word : AFunc := ⟨6, [(2, none)], wire_Reader_Word_c, none⟩
theorem wire_Reader_Word_t : T0 88 = some wire_Reader_Word := withKept_t rfl (withTrue_t rfl (by kernel_rfl : tableOf Tryz.prog 88 = some wire_Reader_Word))
theorem wire_Reader_Word_runs {v0 : Value} {h : Heap} {R : RP} {X : XP} (k : RunC Tryz.prog T0 wire_Reader_Word_c ⟨[v0, U, U, U, U, U], [], h, none⟩ (bodyQ Tryz.prog T0 [(2, none)] R X)) :
 Runs Tryz.prog T0 (.fn 88) [v0] h R X := Runs.fn wire_Reader_Word_t rfl k
abbrev fn_commit_Check : FuncId := 89
noncomputable def commit_Check_l0 : ACode :=
 (.seq (.region [
 o1 26 (.bin .lss (so (.binOp .lss 3 (tm 25) (tm 24) 3) 0) (tm 25) (tm 24))]) (.seq (.cond (tm 26)
 .skip
 (.exit 1)) (.seq (.block 2 (.seq (.region [
 o1 27 (.indexSl 2 (tm 23) (tm 25)),
 o1 28 (.load (some 2) (tm 27)),
 o1 5 (.alloc 112 [(.int .i64 0), (.int .u64 0)]),
 o3 (.store 2 (tm 5) (tm 28))]) (.seq (.region [
 o1 29 (.mov (tm 3)),
 o1 30 (.load (some 2) (tm 5)),
 o1 31 (.callV (tm 29) [(tm 30)]),
 o1 6 (.mov (tm 31))]) (.seq (.region [
 o1 32 (.mov (tm 6)),
 o1 33 (.bin .neq (so (.binOp .neq 41 (tm 32) k0 41) 4) (tm 32) k0)]) (.cond (tm 33)
 (.seq (.region [
 o1 34 (.mov (tm 6)),
 o1 2 (.mov (tm 34))]) .ret)
 .skip))))) (.region [
 o1 35 (.bin .add (so (.binOp .add 3 (tm 25) (.const (.int .i64 1)) 3) 3) (tm 25) (.const (.int .i64 1))),
 o1 25 (.mov (tm 35))]))))
noncomputable def commit_Check_c : ACode :=
 (.seq (.region [
 o1 1 (.box 33 (tm 0)),
 o1 2 (.mov k0)]) (.seq (.block 0 (.seq (.region [
 o1 8 (.fieldAddr 0 (tm 1)),
 o1 9 (.load none (tm 8)),
 o1 10 (.bin .lss (so (.binOp .lss 3 (tm 9) (.const (.int .i64 1)) 3) 4) (tm 9) (.const (.int .i64 1))),
 o1 11 (.mov (tm 10)),
 o5 12 (.fieldAddr 0 (tm 1)) 11,
 o5 13 (.load none (tm 12)) 11,
 o5 14 (.bin .gtr (so (.binOp .gtr 3 (tm 13) (.const (.int .i64 1073741824)) 3) 4) (tm 13) (.const (.int .i64 1073741824))) 11,
 o1 15 (.pick (tm 11) (.const (.bool true)) (tm 14)),
 o1 7 (.mov (tm 15))]) (.cond (tm 7)
 (.seq (.region [
 o1 2 (.mov (.const (.int .i64 3)))]) .ret)
 (.seq (.region [
 o1 17 (.fieldAddr 33 (tm 1)),
 o1 18 (.load none (tm 17)),
 o1 19 (.lenSl (tm 18)),
 o1 20 (.bin .gtr (so (.binOp .gtr 3 (tm 19) (.const (.int .i64 64)) 3) 4) (tm 19) (.const (.int .i64 64))),
 o1 16 (.mov (tm 20))]) (.cond (tm 16)
 (.seq (.region [
 o1 2 (.mov (.const (.int .i64 4)))]) .ret)
 .skip))))) (.seq (.region [
 o1 21 (.callV (.func 130) []),
 o1 3 (.mov (tm 21))]) (.seq (.seq (.region [
 o1 22 (.fieldAddr 33 (tm 1)),
 o1 23 (.load none (tm 22)),
 o1 24 (.lenSl (tm 23)),
 o1 25 (.mov k0)]) (.block 1 (.loop commit_Check_l0))) (.seq (.region [
 o1 2 (.mov k0)]) .ret)))))
noncomputable def commit_Check : AFunc := ⟨36, [(2, none)], commit_Check_c, none⟩
theorem commit_Check_t : T0 89 = some commit_Check := withKept_t rfl (withTrue_t rfl (by kernel_rfl : tableOf Tryz.prog 89 = some commit_Check))
theorem commit_Check_runs {v0 : Value} {h : Heap} {R : RP} {X : XP} (k : RunC Tryz.prog T0 commit_Check_c ⟨[v0, U, U, U, U, U, U, U, U, U, U, U, U, U, U, U, U, U, U, U, U, U, U, U, U, U, U, U, U, U, U, U, U, U, U, U], [], h, none⟩ (bodyQ Tryz.prog T0 [(2, none)] R X)) :
 Runs Tryz.prog T0 (.fn 89) [v0] h R X := Runs.fn commit_Check_t rfl k
/-- the slots that turn in the loop: v25 -/
noncomputable def commit_Check_l0_J (f0 f1 f3 f4 f7 f8 f9 f10 f11 f12 f13 f14 f15 f16 f17 f18 f19 f20 f21 f22 f23 f24 : Value) (ds : List Deferred) (rd : Option Nat) (I : Nat → Value → Heap → Prop) (m : Nat) (s : St) : Prop := ∃ (v25 : Value), ∃ h : Heap, ∃ (x2 x5 x6 x26 x27 x28 x29 x30 x31 x32 x33 x34 x35 : Value), s = ⟨[f0, f1, x2, f3, f4, x5, x6, f7, f8, f9, f10, f11, f12, f13, f14, f15, f16, f17, f18, f19, f20, f21, f22, f23, f24, v25, x26, x27, x28, x29, x30, x31, x32, x33, x34, x35], ds, h, rd⟩ ∧ I m v25 h
theorem commit_Check_l0_rule {f0 f1 f3 f4 f7 f8 f9 f10 f11 f12 f13 f14 f15 f16 f17 f18 f19 f20 f21 f22 f23 f24 : Value} {ds : List Deferred} {rd : Option Nat} {Q : QP} (I : Nat → Value → Heap → Prop) (hb : ∀ (m : Nat) (v25 : Value) (h : Heap) (x2 x5 x6 x26 x27 x28 x29 x30 x31 x32 x33 x34 x35 : Value) , I m v25 h → RunC Tryz.prog T0 commit_Check_l0 ⟨[f0, f1, x2, f3, f4, x5, x6, f7, f8, f9, f10, f11, f12, f13, f14, f15, f16, f17, f18, f19, f20, f21, f22, f23, f24, v25, x26, x27, x28, x29, x30, x31, x32, x33, x34, x35], ds, h, rd⟩ (loopQ (commit_Check_l0_J f0 f1 f3 f4 f7 f8 f9 f10 f11 f12 f13 f14 f15 f16 f17 f18 f19 f20 f21 f22 f23 f24 ds rd I) m Q))
 (m : Nat) {v25 : Value} {h : Heap} {x2 x5 x6 x26 x27 x28 x29 x30 x31 x32 x33 x34 x35 : Value} (hi : I m v25 h) : RunC Tryz.prog T0 (.loop commit_Check_l0) ⟨[f0, f1, x2, f3, f4, x5, x6, f7, f8, f9, f10, f11, f12, f13, f14, f15, f16, f17, f18, f19, f20, f21, f22, f23, f24, v25, x26, x27, x28, x29, x30, x31, x32, x33, x34, x35], ds, h, rd⟩ Q :=
 RunC.loopJ (commit_Check_l0_J f0 f1 f3 f4 f7 f8 f9 f10 f11 f12 f13 f14 f15 f16 f17 f18 f19 f20 f21 f22 f23 f24 ds rd I) (fun m s hj => by obtain ⟨v25, h, x2, x5, x6, x26, x27, x28, x29, x30, x31, x32, x33, x34, x35, rfl, hi⟩ := hj; exact hb m v25 h x2 x5 x6 x26 x27 x28 x29 x30 x31 x32 x33 x34 x35 hi) m _ ⟨_, h, _, _, _, _, _, _, _, _, _, _, _, _, _, rfl, hi⟩
theorem commit_Check_l0_again {f0 f1 f3 f4 f7 f8 f9 f10 f11 f12 f13 f14 f15 f16 f17 f18 f19 f20 f21 f22 f23 f24 : Value} {ds : List Deferred} {rd : Option Nat} {Q : QP} {I : Nat → Value → Heap → Prop} {m : Nat} (m' : Nat) {v25 : Value} {h : Heap} {x2 x5 x6 x26 x27 x28 x29 x30 x31 x32 x33 x34 x35 : Value} (hm : m' < m) (hi : I m' v25 h) : loopQ (commit_Check_l0_J f0 f1 f3 f4 f7 f8 f9 f10 f11 f12 f13 f14 f15 f16 f17 f18 f19 f20 f21 f22 f23 f24 ds rd I) m Q .normal ⟨[f0, f1, x2, f3, f4, x5, x6, f7, f8, f9, f10, f11, f12, f13, f14, f15, f16, f17, f18, f19, f20, f21, f22, f23, f24, v25, x26, x27, x28, x29, x30, x31, x32, x33, x34, x35], ds, h, rd⟩ :=
 loopQ.again m' hm ⟨_, h, _, _, _, _, _, _, _, _, _, _, _, _, _, rfl, hi⟩
abbrev fn_wire_Reader_Key : FuncId := 90
noncomputable def wire_Reader_Key_c : ACode :=
 (.seq (.region [
 o1 1 (.box 61 (tm 0)),
 o1 2 (.alloc 108 [(.int .u8 0), (.int .u8 0), (.int .u8 0), (.int .u8 0)])]) (.seq (.region [
 o1 3 (.load none (tm 1)),
 o1 4 (.mkFunc (.func 132) [] [(tm 1)]),
 o1 5 (.callV (.func 131) [(tm 3), (tm 4)]),
 o3 (.store 4 (tm 2) (tm 5))]) .ret))
noncomputable def wire_Reader_Key : AFunc := ⟨6, [(2, some (some 4))], wire_Reader_Key_c, none⟩
theorem wire_Reader_Key_t : T0 90 = some wire_Reader_Key := withKept_t rfl (withTrue_t rfl (by kernel_rfl : tableOf Tryz.prog 90 = some wire_Reader_Key))
theorem wire_Reader_Key_runs {v0 : Value} {h : Heap} {R : RP} {X : XP} (k : RunC Tryz.prog T0 wire_Reader_Key_c ⟨[v0, U, U, U, U, U], [], h, none⟩ (bodyQ Tryz.prog T0 [(2, some (some 4))] R X)) :
 Runs Tryz.prog T0 (.fn 90) [v0] h R X := Runs.fn wire_Reader_Key_t rfl k
abbrev fn_vals_Check : FuncId := 91
noncomputable def vals_Check_l0 : ACode :=
 (.seq (.region [
 o1 19 (.bin .lss (so (.binOp .lss 3 (tm 18) (tm 17) 3) 0) (tm 18) (tm 17))]) (.seq (.cond (tm 19)
 .skip
 (.exit 1)) (.seq (.block 2 (.seq (.region [
 o1 20 (.indexSl 5 (tm 16) (tm 18)),
 o1 21 (.load (some 5) (tm 20)),
 o1 5 (.alloc 110 [(.int .u8 0), (.int .u8 0), (.int .u8 0), (.int .u8 0), (.int .i64 0)]),
 o3 (.store 5 (tm 5) (tm 21))]) (.seq (.region [
 o1 22 (.load (some 5) (tm 5)),
 o1 23 (.callV (.func 135) [(tm 3), (tm 22)]),
 o1 6 (.mov (tm 23))]) (.seq (.region [
 o1 24 (.mov (tm 6)),
 o1 25 (.bin .neq (so (.binOp .neq 41 (tm 24) k0 41) 4) (tm 24) k0)]) (.cond (tm 25)
 (.seq (.region [
 o1 26 (.mov (tm 6)),
 o1 2 (.mov (tm 26))]) .ret)
 .skip))))) (.region [
 o1 27 (.bin .add (so (.binOp .add 3 (tm 18) (.const (.int .i64 1)) 3) 3) (tm 18) (.const (.int .i64 1))),
 o1 18 (.mov (tm 27))]))))
noncomputable def vals_Check_c : ACode :=
 (.seq (.region [
 o1 2 (.mov k0)]) (.seq (.block 0 (.seq (.region [
 o1 8 (.mov (tm 0)),
 o1 9 (.lenSl (tm 8)),
 o1 10 (.bin .eql (so (.binOp .eql 3 (tm 9) k0 3) 4) (tm 9) k0),
 o1 7 (.mov (tm 10))]) (.cond (tm 7)
 (.seq (.region [
 o1 2 (.mov (.const (.int .i64 6)))]) .ret)
 (.seq (.region [
 o1 12 (.mov (tm 0)),
 o1 13 (.lenSl (tm 12)),
 o1 14 (.bin .gtr (so (.binOp .gtr 3 (tm 13) (.const (.int .i64 64)) 3) 4) (tm 13) (.const (.int .i64 64))),
 o1 11 (.mov (tm 14))]) (.cond (tm 11)
 (.seq (.region [
 o1 2 (.mov (.const (.int .i64 4)))]) .ret)
 .skip))))) (.seq (.region [
 o1 15 (.build [(.int .u8 0), (.int .u8 0), (.int .u8 0), (.int .u8 0), (.bool false), (.int .i64 0), (.int .i64 0)] [(5, 1, (.const (.int .i64 1))), (6, 1, (.const (.int .i64 4611686018427387904)))]),
 o1 3 (.alloc 183 [(.int .u8 0), (.int .u8 0), (.int .u8 0), (.int .u8 0), (.bool false), (.int .i64 0), (.int .i64 0)]),
 o3 (.store 7 (tm 3) (tm 15))]) (.seq (.seq (.region [
 o1 16 (.mov (tm 0)),
 o1 17 (.lenSl (tm 16)),
 o1 18 (.mov k0)]) (.block 1 (.loop vals_Check_l0))) (.seq (.region [
 o1 2 (.mov k0)]) .ret)))))
noncomputable def vals_Check : AFunc := ⟨28, [(2, none)], vals_Check_c, none⟩
theorem vals_Check_t : T0 91 = some vals_Check := withKept_t rfl (withTrue_t rfl (by kernel_rfl : tableOf Tryz.prog 91 = some vals_Check))
theorem vals_Check_runs {v0 : Value} {h : Heap} {R : RP} {X : XP} (k : RunC Tryz.prog T0 vals_Check_c ⟨[v0, U, U, U, U, U, U, U, U, U, U, U, U, U, U, U, U, U, U, U, U, U, U, U, U, U, U, U], [], h, none⟩ (bodyQ Tryz.prog T0 [(2, none)] R X)) :
 Runs Tryz.prog T0 (.fn 91) [v0] h R X := Runs.fn vals_Check_t rfl k
/-- the slots that turn in the loop: v18 -/
noncomputable def vals_Check_l0_J (f0 f1 f3 f4 f7 f8 f9 f10 f11 f12 f13 f14 f15 f16 f17 : Value) (ds : List Deferred) (rd : Option Nat) (I : Nat → Value → Heap → Prop) (m : Nat) (s : St) : Prop := ∃ (v18 : Value), ∃ h : Heap, ∃ (x2 x5 x6 x19 x20 x21 x22 x23 x24 x25 x26 x27 : Value), s = ⟨[f0, f1, x2, f3, f4, x5, x6, f7, f8, f9, f10, f11, f12, f13, f14, f15, f16, f17, v18, x19, x20, x21, x22, x23, x24, x25, x26, x27], ds, h, rd⟩ ∧ I m v18 h
theorem vals_Check_l0_rule {f0 f1 f3 f4 f7 f8 f9 f10 f11 f12 f13 f14 f15 f16 f17 : Value} {ds : List Deferred} {rd : Option Nat} {Q : QP} (I : Nat → Value → Heap → Prop) (hb : ∀ (m : Nat) (v18 : Value) (h : Heap) (x2 x5 x6 x19 x20 x21 x22 x23 x24 x25 x26 x27 : Value) , I m v18 h → RunC Tryz.prog T0 vals_Check_l0 ⟨[f0, f1, x2, f3, f4, x5, x6, f7, f8, f9, f10, f11, f12, f13, f14, f15, f16, f17, v18, x19, x20, x21, x22, x23, x24, x25, x26, x27], ds, h, rd⟩ (loopQ (vals_Check_l0_J f0 f1 f3 f4 f7 f8 f9 f10 f11 f12 f13 f14 f15 f16 f17 ds rd I) m Q))
 (m : Nat) {v18 : Value} {h : Heap} {x2 x5 x6 x19 x20 x21 x22 x23 x24 x25 x26 x27 : Value} (hi : I m v18 h) : RunC Tryz.prog T0 (.loop vals_Check_l0) ⟨[f0, f1, x2, f3, f4, x5, x6, f7, f8, f9, f10, f11, f12, f13, f14, f15, f16, f17, v18, x19, x20, x21, x22, x23, x24, x25, x26, x27], ds, h, rd⟩ Q :=
 RunC.loopJ (vals_Check_l0_J f0 f1 f3 f4 f7 f8 f9 f10 f11 f12 f13 f14 f15 f16 f17 ds rd I) (fun m s hj => by obtain ⟨v18, h, x2, x5, x6, x19, x20, x21, x22, x23, x24, x25, x26, x27, rfl, hi⟩ := hj; exact hb m v18 h x2 x5 x6 x19 x20 x21 x22 x23 x24 x25 x26 x27 hi) m _ ⟨_, h, _, _, _, _, _, _, _, _, _, _, _, _, rfl, hi⟩
theorem vals_Check_l0_again {f0 f1 f3 f4 f7 f8 f9 f10 f11 f12 f13 f14 f15 f16 f17 : Value} {ds : List Deferred} {rd : Option Nat} {Q : QP} {I : Nat → Value → Heap → Prop} {m : Nat} (m' : Nat) {v18 : Value} {h : Heap} {x2 x5 x6 x19 x20 x21 x22 x23 x24 x25 x26 x27 : Value} (hm : m' < m) (hi : I m' v18 h) : loopQ (vals_Check_l0_J f0 f1 f3 f4 f7 f8 f9 f10 f11 f12 f13 f14 f15 f16 f17 ds rd I) m Q .normal ⟨[f0, f1, x2, f3, f4, x5, x6, f7, f8, f9, f10, f11, f12, f13, f14, f15, f16, f17, v18, x19, x20, x21, x22, x23, x24, x25, x26, x27], ds, h, rd⟩ :=
 loopQ.again m' hm ⟨_, h, _, _, _, _, _, _, _, _, _, _, _, _, rfl, hi⟩
abbrev fn_lr06_Get : FuncId := 92
noncomputable def lr06_Get_c : ACode :=
 (.seq (.region [
 o1 2 (.alloc 30 ((.string ⟨⟨[]⟩⟩) :: ((.int .i64 0) :: ((.int .i64 0) :: (z32 ++ (z32 ++ (z32 ++ z32)))))))]) (.seq (.region [
 o1 3 (.alloc 30 ((.string ⟨⟨[]⟩⟩) :: ((.int .i64 0) :: ((.int .i64 0) :: (z32 ++ (z32 ++ (z32 ++ z32)))))))]) (.seq (.region [
 o1 4 (.mov (tm 0)),
 o1 5 (.callV (.func 136) [(tm 4), (.const (.int .i64 32))]),
 o1 6 (.fieldAddr 0 (tm 3)),
 o3 (.store 1 (tm 6) (tm 5))]) (.seq (.region [
 o1 7 (.mov (tm 0)),
 o1 8 (.callV (.func 32) [(tm 7)]),
 o1 9 (.fieldAddr 1 (tm 3)),
 o3 (.store 1 (tm 9) (tm 8))]) (.seq (.region [
 o1 10 (.mov (tm 0)),
 o1 11 (.callV (.func 32) [(tm 10)]),
 o1 12 (.fieldAddr 2 (tm 3)),
 o3 (.store 1 (tm 12) (tm 11))]) (.seq (.region [
 o1 13 (.mov (tm 0)),
 o1 14 (.callV (.func 94) [(tm 13)]),
 o1 15 (.fieldAddr 3 (tm 3)),
 o3 (.store 32 (tm 15) (tm 14))]) (.seq (.region [
 o1 16 (.mov (tm 0)),
 o1 17 (.callV (.func 94) [(tm 16)]),
 o1 18 (.fieldAddr 35 (tm 3)),
 o3 (.store 32 (tm 18) (tm 17))]) (.seq (.region [
 o1 19 (.mov (tm 0)),
 o1 20 (.callV (.func 94) [(tm 19)]),
 o1 21 (.fieldAddr 67 (tm 3)),
 o3 (.store 32 (tm 21) (tm 20))]) (.seq (.region [
 o1 22 (.mov (tm 0)),
 o1 23 (.callV (.func 94) [(tm 22)]),
 o1 24 (.fieldAddr 99 (tm 3)),
 o3 (.store 32 (tm 24) (tm 23))]) (.seq (.region [
 o1 25 (.load (some 131) (tm 3)),
 o3 (.store 131 (tm 2) (tm 25))]) .ret))))))))))
noncomputable def lr06_Get : AFunc := ⟨26, [(2, some (some 131))], lr06_Get_c, none⟩
theorem lr06_Get_t : T0 92 = some lr06_Get := withKept_t rfl (withTrue_t rfl (by kernel_rfl : tableOf Tryz.prog 92 = some lr06_Get))
theorem lr06_Get_runs {v0 : Value} {h : Heap} {R : RP} {X : XP} (k : RunC Tryz.prog T0 lr06_Get_c ⟨[v0, U, U, U, U, U, U, U, U, U, U, U, U, U, U, U, U, U, U, U, U, U, U, U, U, U], [], h, none⟩ (bodyQ Tryz.prog T0 [(2, some (some 131))] R X)) :
 Runs Tryz.prog T0 (.fn 92) [v0] h R X := Runs.fn lr06_Get_t rfl k
abbrev fn_lr06_Check : FuncId := 93
noncomputable def lr06_Check_c : ACode :=
 (.seq (.region [
 o1 1 (.box 30 (tm 0)),
 o1 2 (.mov k0)]) (.seq (.block 0 (.seq (.region [
 o1 4 (.fieldAddr 0 (tm 1)),
 o1 5 (.load none (tm 4)),
 o1 6 (.callV (.func 137) [(tm 5)]),
 o1 7 (.raw (so (.unOp .not 4 (tm 6)) 4)),
 o1 3 (.mov (tm 7))]) (.cond (tm 3)
 (.seq (.region [
 o1 2 (.mov (.const (.int .i64 5)))]) .ret)
 (.seq (.region [
 o1 9 (.fieldAddr 1 (tm 1)),
 o1 10 (.load none (tm 9)),
 o1 11 (.bin .lss (so (.binOp .lss 3 (tm 10) (.const (.int .i64 1)) 3) 4) (tm 10) (.const (.int .i64 1))),
 o1 12 (.mov (tm 11)),
 o5 13 (.fieldAddr 1 (tm 1)) 12,
 o5 14 (.load none (tm 13)) 12,
 o5 15 (.bin .gtr (so (.binOp .gtr 3 (tm 14) (.const (.int .i64 1073741824)) 3) 4) (tm 14) (.const (.int .i64 1073741824))) 12,
 o1 16 (.pick (tm 12) (.const (.bool true)) (tm 15)),
 o1 17 (.mov (tm 16)),
 o5 18 (.fieldAddr 2 (tm 1)) 17,
 o5 19 (.load none (tm 18)) 17,
 o5 20 (.bin .lss (so (.binOp .lss 3 (tm 19) k0 3) 4) (tm 19) k0) 17,
 o1 21 (.pick (tm 17) (.const (.bool true)) (tm 20)),
 o1 22 (.mov (tm 21)),
 o5 23 (.fieldAddr 2 (tm 1)) 22,
 o5 24 (.load none (tm 23)) 22,
 o5 25 (.bin .gtr (so (.binOp .gtr 3 (tm 24) (.const (.int .i64 1099511627776)) 3) 4) (tm 24) (.const (.int .i64 1099511627776))) 22,
 o1 26 (.pick (tm 22) (.const (.bool true)) (tm 25)),
 o1 8 (.mov (tm 26))]) (.cond (tm 8)
 (.seq (.region [
 o1 2 (.mov (.const (.int .i64 3)))]) .ret)
 .skip))))) (.seq (.region [
 o1 2 (.mov k0)]) .ret)))
noncomputable def lr06_Check : AFunc := ⟨27, [(2, none)], lr06_Check_c, none⟩
theorem lr06_Check_t : T0 93 = some lr06_Check := withKept_t rfl (withTrue_t rfl (by kernel_rfl : tableOf Tryz.prog 93 = some lr06_Check))
theorem lr06_Check_runs {v0 : Value} {h : Heap} {R : RP} {X : XP} (k : RunC Tryz.prog T0 lr06_Check_c ⟨[v0, U, U, U, U, U, U, U, U, U, U, U, U, U, U, U, U, U, U, U, U, U, U, U, U, U, U], [], h, none⟩ (bodyQ Tryz.prog T0 [(2, none)] R X)) :
 Runs Tryz.prog T0 (.fn 93) [v0] h R X := Runs.fn lr06_Check_t rfl k
abbrev fn_lr04_Reader_Hash : FuncId := 94
noncomputable def lr04_Reader_Hash_l0 : ACode :=
 (.seq (.seq (.region [
 o1 12 (.mov (tm 5)),
 o1 13 (.mov (tm 4)),
 o1 14 (.lenSl (tm 13)),
 o1 15 (.bin .lss (so (.binOp .lss 3 (tm 12) (tm 14) 3) 4) (tm 12) (tm 14))]) (.cond (tm 15)
 .skip
 (.exit 0))) (.seq (.block 1 (.region [
 o1 18 (.mov (tm 5)),
 o1 19 (.mov (tm 4)),
 o1 20 (.mov (tm 5)),
 o1 21 (.indexSl 1 (tm 19) (tm 20)),
 o1 22 (.load none (tm 21)),
 o1 23 (.indexArr 32 1 (tm 3) (tm 18)),
 o3 (.store 1 (tm 23) (tm 22))])) (.region [
 o1 16 (.mov (tm 5)),
 o1 17 (.bin .add (so (.binOp .add 3 (tm 16) (.const (.int .i64 1)) 3) 3) (tm 16) (.const (.int .i64 1))),
 o1 5 (.mov (tm 17))])))
noncomputable def lr04_Reader_Hash_c : ACode :=
 (.seq (.region [
 o1 2 (.alloc 28 z32)]) (.seq (.region [
 o1 3 (.alloc 28 z32)]) (.seq (.region [
 o1 6 (.mov (tm 0)),
 o1 7 (.mov (tm 0)),
 o1 8 (.nilCheck (tm 7)),
 o1 9 (.fieldAddr 1 (tm 8)),
 o1 10 (.load none (tm 9)),
 o1 11 (.callV (.func 68) [(tm 6), (.const (.int .i64 32)), (tm 10)]),
 o1 4 (.mov (tm 11))]) (.seq (.seq (.region [
 o1 5 (.mov k0)]) (.block 0 (.loop lr04_Reader_Hash_l0))) (.seq (.region [
 o1 24 (.load (some 32) (tm 3)),
 o3 (.store 32 (tm 2) (tm 24))]) .ret)))))
noncomputable def lr04_Reader_Hash : AFunc := ⟨25, [(2, some (some 32))], lr04_Reader_Hash_c, none⟩
theorem lr04_Reader_Hash_t : T0 94 = some lr04_Reader_Hash := withKept_t rfl (withTrue_t rfl (by kernel_rfl : tableOf Tryz.prog 94 = some lr04_Reader_Hash))
theorem lr04_Reader_Hash_runs {v0 : Value} {h : Heap} {R : RP} {X : XP} (k : RunC Tryz.prog T0 lr04_Reader_Hash_c ⟨[v0, U, U, U, U, U, U, U, U, U, U, U, U, U, U, U, U, U, U, U, U, U, U, U, U], [], h, none⟩ (bodyQ Tryz.prog T0 [(2, some (some 32))] R X)) :
 Runs Tryz.prog T0 (.fn 94) [v0] h R X := Runs.fn lr04_Reader_Hash_t rfl k
/-- the slots that turn in the loop: v5 -/
noncomputable def lr04_Reader_Hash_l0_J (f0 f1 f2 f3 f4 f6 f7 f8 f9 f10 f11 f24 : Value) (ds : List Deferred) (rd : Option Nat) (I : Nat → Value → Heap → Prop) (m : Nat) (s : St) : Prop := ∃ (v5 : Value), ∃ h : Heap, ∃ (x12 x13 x14 x15 x16 x17 x18 x19 x20 x21 x22 x23 : Value), s = ⟨[f0, f1, f2, f3, f4, v5, f6, f7, f8, f9, f10, f11, x12, x13, x14, x15, x16, x17, x18, x19, x20, x21, x22, x23, f24], ds, h, rd⟩ ∧ I m v5 h
theorem lr04_Reader_Hash_l0_rule {f0 f1 f2 f3 f4 f6 f7 f8 f9 f10 f11 f24 : Value} {ds : List Deferred} {rd : Option Nat} {Q : QP} (I : Nat → Value → Heap → Prop) (hb : ∀ (m : Nat) (v5 : Value) (h : Heap) (x12 x13 x14 x15 x16 x17 x18 x19 x20 x21 x22 x23 : Value) , I m v5 h → RunC Tryz.prog T0 lr04_Reader_Hash_l0 ⟨[f0, f1, f2, f3, f4, v5, f6, f7, f8, f9, f10, f11, x12, x13, x14, x15, x16, x17, x18, x19, x20, x21, x22, x23, f24], ds, h, rd⟩ (loopQ (lr04_Reader_Hash_l0_J f0 f1 f2 f3 f4 f6 f7 f8 f9 f10 f11 f24 ds rd I) m Q))
 (m : Nat) {v5 : Value} {h : Heap} {x12 x13 x14 x15 x16 x17 x18 x19 x20 x21 x22 x23 : Value} (hi : I m v5 h) : RunC Tryz.prog T0 (.loop lr04_Reader_Hash_l0) ⟨[f0, f1, f2, f3, f4, v5, f6, f7, f8, f9, f10, f11, x12, x13, x14, x15, x16, x17, x18, x19, x20, x21, x22, x23, f24], ds, h, rd⟩ Q :=
 RunC.loopJ (lr04_Reader_Hash_l0_J f0 f1 f2 f3 f4 f6 f7 f8 f9 f10 f11 f24 ds rd I) (fun m s hj => by obtain ⟨v5, h, x12, x13, x14, x15, x16, x17, x18, x19, x20, x21, x22, x23, rfl, hi⟩ := hj; exact hb m v5 h x12 x13 x14 x15 x16 x17 x18 x19 x20 x21 x22 x23 hi) m _ ⟨_, h, _, _, _, _, _, _, _, _, _, _, _, _, rfl, hi⟩
theorem lr04_Reader_Hash_l0_again {f0 f1 f2 f3 f4 f6 f7 f8 f9 f10 f11 f24 : Value} {ds : List Deferred} {rd : Option Nat} {Q : QP} {I : Nat → Value → Heap → Prop} {m : Nat} (m' : Nat) {v5 : Value} {h : Heap} {x12 x13 x14 x15 x16 x17 x18 x19 x20 x21 x22 x23 : Value} (hm : m' < m) (hi : I m' v5 h) : loopQ (lr04_Reader_Hash_l0_J f0 f1 f2 f3 f4 f6 f7 f8 f9 f10 f11 f24 ds rd I) m Q .normal ⟨[f0, f1, f2, f3, f4, v5, f6, f7, f8, f9, f10, f11, x12, x13, x14, x15, x16, x17, x18, x19, x20, x21, x22, x23, f24], ds, h, rd⟩ :=
 loopQ.again m' hm ⟨_, h, _, _, _, _, _, _, _, _, _, _, _, _, rfl, hi⟩
abbrev fn_lr04_Reader_Rest : FuncId := 95
noncomputable def lr04_Reader_Rest_c : ACode :=
 (.seq (.region [
 o1 2 (.mov k0)]) (.seq (.seq (.region [
 o1 3 (.mov (tm 0)),
 o1 4 (.nilCheck (tm 3)),
 o1 5 (.fieldAddr 2 (tm 4)),
 o1 6 (.fieldAddr 0 (tm 5)),
 o1 7 (.load none (tm 6)),
 o1 8 (.bin .neq (so (.binOp .neq 41 (tm 7) k0 41) 4) (tm 7) k0)]) (.cond (tm 8)
 (.seq (.region [
 o1 2 (.mov k0)]) .ret)
 .skip)) (.seq (.regionD [
 o1 9 (.mov (tm 0)),
 o1 10 (.nilCheck (tm 9)),
 o1 11 (.fieldAddr 0 (tm 10)),
 o1 12 (.load none (tm 11)),
 o1 13 (.lenSl (tm 12)),
 o1 14 (.mov (tm 0)),
 o1 15 (.nilCheck (tm 14)),
 o1 16 (.fieldAddr 1 (tm 15)),
 o1 17 (.load none (tm 16)),
 o2 18 (.bin .sub (so (.binOp .sub 3 (tm 13) (tm 17) 3) 3) (tm 13) (tm 17)),
 o2 2 (.mov (tm 18))]) .ret)))
noncomputable def lr04_Reader_Rest : AFunc := ⟨19, [(2, none)], lr04_Reader_Rest_c, none⟩
theorem lr04_Reader_Rest_t : T0 95 = some lr04_Reader_Rest := withKept_t rfl (withTrue_t rfl (by kernel_rfl : tableOf Tryz.prog 95 = some lr04_Reader_Rest))
theorem lr04_Reader_Rest_runs {v0 : Value} {h : Heap} {R : RP} {X : XP} (k : RunC Tryz.prog T0 lr04_Reader_Rest_c ⟨[v0, U, U, U, U, U, U, U, U, U, U, U, U, U, U, U, U, U, U], [], h, none⟩ (bodyQ Tryz.prog T0 [(2, none)] R X)) :
 Runs Tryz.prog T0 (.fn 95) [v0] h R X := Runs.fn lr04_Reader_Rest_t rfl k
abbrev fn_lr04_Reader_Word : FuncId := 96
noncomputable def lr04_Reader_Word_l0 : ACode :=
 (.seq (.seq (.region [
 o1 12 (.mov (tm 5)),
 o1 13 (.mov (tm 4)),
 o1 14 (.lenSl (tm 13)),
 o1 15 (.bin .lss (so (.binOp .lss 3 (tm 12) (tm 14) 3) 4) (tm 12) (tm 14))]) (.cond (tm 15)
 .skip
 (.exit 0))) (.seq (.block 1 (.region [
 o1 18 (.mov (tm 3)),
 o1 19 (.bin .shl (so (.binOp .shl 105 (tm 18) (.const (.int .u64 8)) 106) 105) (tm 18) (.const (.int .u64 8))),
 o1 20 (.mov (tm 4)),
 o1 21 (.mov (tm 5)),
 o1 22 (.indexSl 1 (tm 20) (tm 21)),
 o1 23 (.load none (tm 22)),
 o1 24 (.conv .u64 (so (.convert 5 105 (tm 23)) 105) (tm 23)),
 o1 25 (.bin .or (so (.binOp .or 105 (tm 19) (tm 24) 105) 105) (tm 19) (tm 24)),
 o1 3 (.mov (tm 25))])) (.region [
 o1 16 (.mov (tm 5)),
 o1 17 (.bin .add (so (.binOp .add 3 (tm 16) (.const (.int .i64 1)) 3) 3) (tm 16) (.const (.int .i64 1))),
 o1 5 (.mov (tm 17))])))
noncomputable def lr04_Reader_Word_c : ACode :=
 (.seq (.region [
 o1 2 (.mov (.const (.int .u64 0)))]) (.seq (.region [
 o1 3 (.mov (.const (.int .u64 0)))]) (.seq (.region [
 o1 6 (.mov (tm 0)),
 o1 7 (.mov (tm 0)),
 o1 8 (.nilCheck (tm 7)),
 o1 9 (.fieldAddr 1 (tm 8)),
 o1 10 (.load none (tm 9)),
 o1 11 (.callV (.func 68) [(tm 6), (.const (.int .i64 8)), (tm 10)]),
 o1 4 (.mov (tm 11))]) (.seq (.seq (.region [
 o1 5 (.mov k0)]) (.block 0 (.loop lr04_Reader_Word_l0))) (.seq (.region [
 o1 26 (.mov (tm 3)),
 o1 2 (.mov (tm 26))]) .ret)))))
noncomputable def lr04_Reader_Word : AFunc := ⟨27, [(2, none)], lr04_Reader_Word_c, none⟩
theorem lr04_Reader_Word_t : T0 96 = some lr04_Reader_Word := withKept_t rfl (withTrue_t rfl (by kernel_rfl : tableOf Tryz.prog 96 = some lr04_Reader_Word))
theorem lr04_Reader_Word_runs {v0 : Value} {h : Heap} {R : RP} {X : XP} (k : RunC Tryz.prog T0 lr04_Reader_Word_c ⟨[v0, U, U, U, U, U, U, U, U, U, U, U, U, U, U, U, U, U, U, U, U, U, U, U, U, U, U], [], h, none⟩ (bodyQ Tryz.prog T0 [(2, none)] R X)) :
 Runs Tryz.prog T0 (.fn 96) [v0] h R X := Runs.fn lr04_Reader_Word_t rfl k
/-- the slots that turn in the loop: v3 v5 -/
noncomputable def lr04_Reader_Word_l0_J (f0 f1 f2 f4 f6 f7 f8 f9 f10 f11 f26 : Value) (ds : List Deferred) (rd : Option Nat) (I : Nat → Value → Value → Heap → Prop) (m : Nat) (s : St) : Prop := ∃ (v3 v5 : Value), ∃ h : Heap, ∃ (x12 x13 x14 x15 x16 x17 x18 x19 x20 x21 x22 x23 x24 x25 : Value), s = ⟨[f0, f1, f2, v3, f4, v5, f6, f7, f8, f9, f10, f11, x12, x13, x14, x15, x16, x17, x18, x19, x20, x21, x22, x23, x24, x25, f26], ds, h, rd⟩ ∧ I m v3 v5 h
theorem lr04_Reader_Word_l0_rule {f0 f1 f2 f4 f6 f7 f8 f9 f10 f11 f26 : Value} {ds : List Deferred} {rd : Option Nat} {Q : QP} (I : Nat → Value → Value → Heap → Prop) (hb : ∀ (m : Nat) (v3 v5 : Value) (h : Heap) (x12 x13 x14 x15 x16 x17 x18 x19 x20 x21 x22 x23 x24 x25 : Value) , I m v3 v5 h → RunC Tryz.prog T0 lr04_Reader_Word_l0 ⟨[f0, f1, f2, v3, f4, v5, f6, f7, f8, f9, f10, f11, x12, x13, x14, x15, x16, x17, x18, x19, x20, x21, x22, x23, x24, x25, f26], ds, h, rd⟩ (loopQ (lr04_Reader_Word_l0_J f0 f1 f2 f4 f6 f7 f8 f9 f10 f11 f26 ds rd I) m Q))
 (m : Nat) {v3 v5 : Value} {h : Heap} {x12 x13 x14 x15 x16 x17 x18 x19 x20 x21 x22 x23 x24 x25 : Value} (hi : I m v3 v5 h) : RunC Tryz.prog T0 (.loop lr04_Reader_Word_l0) ⟨[f0, f1, f2, v3, f4, v5, f6, f7, f8, f9, f10, f11, x12, x13, x14, x15, x16, x17, x18, x19, x20, x21, x22, x23, x24, x25, f26], ds, h, rd⟩ Q :=
 RunC.loopJ (lr04_Reader_Word_l0_J f0 f1 f2 f4 f6 f7 f8 f9 f10 f11 f26 ds rd I) (fun m s hj => by obtain ⟨v3, v5, h, x12, x13, x14, x15, x16, x17, x18, x19, x20, x21, x22, x23, x24, x25, rfl, hi⟩ := hj; exact hb m v3 v5 h x12 x13 x14 x15 x16 x17 x18 x19 x20 x21 x22 x23 x24 x25 hi) m _ ⟨_, _, h, _, _, _, _, _, _, _, _, _, _, _, _, _, _, rfl, hi⟩
theorem lr04_Reader_Word_l0_again {f0 f1 f2 f4 f6 f7 f8 f9 f10 f11 f26 : Value} {ds : List Deferred} {rd : Option Nat} {Q : QP} {I : Nat → Value → Value → Heap → Prop} {m : Nat} (m' : Nat) {v3 v5 : Value} {h : Heap} {x12 x13 x14 x15 x16 x17 x18 x19 x20 x21 x22 x23 x24 x25 : Value} (hm : m' < m) (hi : I m' v3 v5 h) : loopQ (lr04_Reader_Word_l0_J f0 f1 f2 f4 f6 f7 f8 f9 f10 f11 f26 ds rd I) m Q .normal ⟨[f0, f1, f2, v3, f4, v5, f6, f7, f8, f9, f10, f11, x12, x13, x14, x15, x16, x17, x18, x19, x20, x21, x22, x23, x24, x25, f26], ds, h, rd⟩ :=
 loopQ.again m' hm ⟨_, _, h, _, _, _, _, _, _, _, _, _, _, _, _, _, _, rfl, hi⟩
abbrev fn_lr07_Check : FuncId := 97
noncomputable def lr07_Check_l0 : ACode :=
 (.seq (.seq (.region [
 o1 18 (.mov (tm 3)),
 o1 19 (.fieldAddr 33 (tm 1)),
 o1 20 (.load none (tm 19)),
 o1 21 (.lenSl (tm 20)),
 o1 22 (.bin .lss (so (.binOp .lss 3 (tm 18) (tm 21) 3) 4) (tm 18) (tm 21))]) (.cond (tm 22)
 .skip
 (.exit 1))) (.seq (.block 2 (.block 3 (.seq (.region [
 o1 26 (.fieldAddr 33 (tm 1)),
 o1 27 (.load none (tm 26)),
 o1 28 (.mov (tm 3)),
 o1 29 (.indexSl 2 (tm 27) (tm 28)),
 o1 30 (.fieldAddr 0 (tm 29)),
 o1 31 (.load none (tm 30)),
 o1 32 (.bin .lss (so (.binOp .lss 3 (tm 31) k0 3) 4) (tm 31) k0),
 o1 33 (.mov (tm 32)),
 o5 34 (.fieldAddr 33 (tm 1)) 33,
 o5 35 (.load none (tm 34)) 33,
 o5 36 (.mov (tm 3)) 33,
 o5 37 (.indexSl 2 (tm 35) (tm 36)) 33,
 o5 38 (.fieldAddr 0 (tm 37)) 33,
 o5 39 (.load none (tm 38)) 33,
 o5 40 (.bin .geq (so (.binOp .geq 3 (tm 39) (.const (.int .i64 64)) 3) 4) (tm 39) (.const (.int .i64 64))) 33,
 o1 41 (.pick (tm 33) (.const (.bool true)) (tm 40)),
 o1 25 (.mov (tm 41))]) (.cond (tm 25)
 (.seq (.region [
 o1 2 (.mov (.const (.int .i64 3)))]) .ret)
 (.seq (.regionD [
 o2 43 (.mov (tm 3)),
 o2 44 (.bin .gtr (so (.binOp .gtr 3 (tm 43) k0 3) 4) (tm 43) k0),
 o2 45 (.mov (tm 44)),
 o4 46 (.fieldAddr 33 (tm 1)) 45,
 o4 47 (.load none (tm 46)) 45,
 o4 48 (.mov (tm 3)) 45,
 o4 49 (.indexSl 2 (tm 47) (tm 48)) 45,
 o4 50 (.fieldAddr 0 (tm 49)) 45,
 o4 51 (.load none (tm 50)) 45,
 o4 52 (.fieldAddr 33 (tm 1)) 45,
 o4 53 (.load none (tm 52)) 45,
 o4 54 (.mov (tm 3)) 45,
 o4 55 (.bin .sub (so (.binOp .sub 3 (tm 54) (.const (.int .i64 1)) 3) 3) (tm 54) (.const (.int .i64 1))) 45,
 o4 56 (.indexSl 2 (tm 53) (tm 55)) 45,
 o4 57 (.fieldAddr 0 (tm 56)) 45,
 o4 58 (.load none (tm 57)) 45,
 ⟨some 59, .bin .leq (so (.binOp .leq 3 (tm 51) (tm 58) 3) 4) (tm 51) (tm 58), some (45, true), [], true⟩,
 o2 60 (.pick (tm 45) (tm 59) (.const (.bool false))),
 o2 42 (.mov (tm 60))]) (.cond (tm 42)
 (.seq (.region [
 o1 2 (.mov (.const (.int .i64 9)))]) .ret)
 .skip)))))) (.region [
 o1 23 (.mov (tm 3)),
 o1 24 (.bin .add (so (.binOp .add 3 (tm 23) (.const (.int .i64 1)) 3) 3) (tm 23) (.const (.int .i64 1))),
 o1 3 (.mov (tm 24))])))
noncomputable def lr07_Check_c : ACode :=
 (.seq (.region [
 o1 1 (.box 33 (tm 0)),
 o1 2 (.mov k0)]) (.seq (.block 0 (.seq (.region [
 o1 5 (.fieldAddr 0 (tm 1)),
 o1 6 (.load none (tm 5)),
 o1 7 (.bin .lss (so (.binOp .lss 3 (tm 6) (.const (.int .i64 1)) 3) 4) (tm 6) (.const (.int .i64 1))),
 o1 8 (.mov (tm 7)),
 o5 9 (.fieldAddr 0 (tm 1)) 8,
 o5 10 (.load none (tm 9)) 8,
 o5 11 (.bin .gtr (so (.binOp .gtr 3 (tm 10) (.const (.int .i64 1073741824)) 3) 4) (tm 10) (.const (.int .i64 1073741824))) 8,
 o1 12 (.pick (tm 8) (.const (.bool true)) (tm 11)),
 o1 4 (.mov (tm 12))]) (.cond (tm 4)
 (.seq (.region [
 o1 2 (.mov (.const (.int .i64 3)))]) .ret)
 (.seq (.region [
 o1 14 (.fieldAddr 33 (tm 1)),
 o1 15 (.load none (tm 14)),
 o1 16 (.lenSl (tm 15)),
 o1 17 (.bin .gtr (so (.binOp .gtr 3 (tm 16) (.const (.int .i64 64)) 3) 4) (tm 16) (.const (.int .i64 64))),
 o1 13 (.mov (tm 17))]) (.cond (tm 13)
 (.seq (.region [
 o1 2 (.mov (.const (.int .i64 4)))]) .ret)
 .skip))))) (.seq (.seq (.region [
 o1 3 (.mov k0)]) (.block 1 (.loop lr07_Check_l0))) (.seq (.region [
 o1 2 (.mov k0)]) .ret))))
noncomputable def lr07_Check : AFunc := ⟨61, [(2, none)], lr07_Check_c, none⟩
theorem lr07_Check_t : T0 97 = some lr07_Check := withKept_t rfl (withTrue_t rfl (by kernel_rfl : tableOf Tryz.prog 97 = some lr07_Check))
theorem lr07_Check_runs {v0 : Value} {h : Heap} {R : RP} {X : XP} (k : RunC Tryz.prog T0 lr07_Check_c ⟨[v0, U, U, U, U, U, U, U, U, U, U, U, U, U, U, U, U, U, U, U, U, U, U, U, U, U, U, U, U, U, U, U, U, U, U, U, U, U, U, U, U, U, U, U, U, U, U, U, U, U, U, U, U, U, U, U, U, U, U, U, U], [], h, none⟩ (bodyQ Tryz.prog T0 [(2, none)] R X)) :
 Runs Tryz.prog T0 (.fn 97) [v0] h R X := Runs.fn lr07_Check_t rfl k
/-- the slots that turn in the loop: v3 -/
noncomputable def lr07_Check_l0_J (f0 f1 f4 f5 f6 f7 f8 f9 f10 f11 f12 f13 f14 f15 f16 f17 : Value) (ds : List Deferred) (rd : Option Nat) (I : Nat → Value → Heap → Prop) (m : Nat) (s : St) : Prop := ∃ (v3 : Value), ∃ h : Heap, ∃ (x2 x18 x19 x20 x21 x22 x23 x24 x25 x26 x27 x28 x29 x30 x31 x32 x33 x34 x35 x36 x37 x38 x39 x40 x41 x42 x43 x44 x45 x46 x47 x48 x49 x50 x51 x52 x53 x54 x55 x56 x57 x58 x59 x60 : Value), s = ⟨[f0, f1, x2, v3, f4, f5, f6, f7, f8, f9, f10, f11, f12, f13, f14, f15, f16, f17, x18, x19, x20, x21, x22, x23, x24, x25, x26, x27, x28, x29, x30, x31, x32, x33, x34, x35, x36, x37, x38, x39, x40, x41, x42, x43, x44, x45, x46, x47, x48, x49, x50, x51, x52, x53, x54, x55, x56, x57, x58, x59, x60], ds, h, rd⟩ ∧ I m v3 h
theorem lr07_Check_l0_rule {f0 f1 f4 f5 f6 f7 f8 f9 f10 f11 f12 f13 f14 f15 f16 f17 : Value} {ds : List Deferred} {rd : Option Nat} {Q : QP} (I : Nat → Value → Heap → Prop) (hb : ∀ (m : Nat) (v3 : Value) (h : Heap) (x2 x18 x19 x20 x21 x22 x23 x24 x25 x26 x27 x28 x29 x30 x31 x32 x33 x34 x35 x36 x37 x38 x39 x40 x41 x42 x43 x44 x45 x46 x47 x48 x49 x50 x51 x52 x53 x54 x55 x56 x57 x58 x59 x60 : Value) , I m v3 h → RunC Tryz.prog T0 lr07_Check_l0 ⟨[f0, f1, x2, v3, f4, f5, f6, f7, f8, f9, f10, f11, f12, f13, f14, f15, f16, f17, x18, x19, x20, x21, x22, x23, x24, x25, x26, x27, x28, x29, x30, x31, x32, x33, x34, x35, x36, x37, x38, x39, x40, x41, x42, x43, x44, x45, x46, x47, x48, x49, x50, x51, x52, x53, x54, x55, x56, x57, x58, x59, x60], ds, h, rd⟩ (loopQ (lr07_Check_l0_J f0 f1 f4 f5 f6 f7 f8 f9 f10 f11 f12 f13 f14 f15 f16 f17 ds rd I) m Q))
 (m : Nat) {v3 : Value} {h : Heap} {x2 x18 x19 x20 x21 x22 x23 x24 x25 x26 x27 x28 x29 x30 x31 x32 x33 x34 x35 x36 x37 x38 x39 x40 x41 x42 x43 x44 x45 x46 x47 x48 x49 x50 x51 x52 x53 x54 x55 x56 x57 x58 x59 x60 : Value} (hi : I m v3 h) : RunC Tryz.prog T0 (.loop lr07_Check_l0) ⟨[f0, f1, x2, v3, f4, f5, f6, f7, f8, f9, f10, f11, f12, f13, f14, f15, f16, f17, x18, x19, x20, x21, x22, x23, x24, x25, x26, x27, x28, x29, x30, x31, x32, x33, x34, x35, x36, x37, x38, x39, x40, x41, x42, x43, x44, x45, x46, x47, x48, x49, x50, x51, x52, x53, x54, x55, x56, x57, x58, x59, x60], ds, h, rd⟩ Q :=
 RunC.loopJ (lr07_Check_l0_J f0 f1 f4 f5 f6 f7 f8 f9 f10 f11 f12 f13 f14 f15 f16 f17 ds rd I) (fun m s hj => by obtain ⟨v3, h, x2, x18, x19, x20, x21, x22, x23, x24, x25, x26, x27, x28, x29, x30, x31, x32, x33, x34, x35, x36, x37, x38, x39, x40, x41, x42, x43, x44, x45, x46, x47, x48, x49, x50, x51, x52, x53, x54, x55, x56, x57, x58, x59, x60, rfl, hi⟩ := hj; exact hb m v3 h x2 x18 x19 x20 x21 x22 x23 x24 x25 x26 x27 x28 x29 x30 x31 x32 x33 x34 x35 x36 x37 x38 x39 x40 x41 x42 x43 x44 x45 x46 x47 x48 x49 x50 x51 x52 x53 x54 x55 x56 x57 x58 x59 x60 hi) m _ ⟨_, h, _, _, _, _, _, _, _, _, _, _, _, _, _, _, _, _, _, _, _, _, _, _, _, _, _, _, _, _, _, _, _, _, _, _, _, _, _, _, _, _, _, _, _, _, rfl, hi⟩
theorem lr07_Check_l0_again {f0 f1 f4 f5 f6 f7 f8 f9 f10 f11 f12 f13 f14 f15 f16 f17 : Value} {ds : List Deferred} {rd : Option Nat} {Q : QP} {I : Nat → Value → Heap → Prop} {m : Nat} (m' : Nat) {v3 : Value} {h : Heap} {x2 x18 x19 x20 x21 x22 x23 x24 x25 x26 x27 x28 x29 x30 x31 x32 x33 x34 x35 x36 x37 x38 x39 x40 x41 x42 x43 x44 x45 x46 x47 x48 x49 x50 x51 x52 x53 x54 x55 x56 x57 x58 x59 x60 : Value} (hm : m' < m) (hi : I m' v3 h) : loopQ (lr07_Check_l0_J f0 f1 f4 f5 f6 f7 f8 f9 f10 f11 f12 f13 f14 f15 f16 f17 ds rd I) m Q .normal ⟨[f0, f1, x2, v3, f4, f5, f6, f7, f8, f9, f10, f11, f12, f13, f14, f15, f16, f17, x18, x19, x20, x21, x22, x23, x24, x25, x26, x27, x28, x29, x30, x31, x32, x33, x34, x35, x36, x37, x38, x39, x40, x41, x42, x43, x44, x45, x46, x47, x48, x49, x50, x51, x52, x53, x54, x55, x56, x57, x58, x59, x60], ds, h, rd⟩ :=
 loopQ.again m' hm ⟨_, h, _, _, _, _, _, _, _, _, _, _, _, _, _, _, _, _, _, _, _, _, _, _, _, _, _, _, _, _, _, _, _, _, _, _, _, _, _, _, _, _, _, _, _, _, rfl, hi⟩
abbrev fn_lr04_Reader_Key : FuncId := 98
noncomputable def lr04_Reader_Key_l0 : ACode :=
 (.seq (.seq (.region [
 o1 12 (.mov (tm 5)),
 o1 13 (.mov (tm 4)),
 o1 14 (.lenSl (tm 13)),
 o1 15 (.bin .lss (so (.binOp .lss 3 (tm 12) (tm 14) 3) 4) (tm 12) (tm 14))]) (.cond (tm 15)
 .skip
 (.exit 0))) (.seq (.block 1 (.region [
 o1 18 (.mov (tm 5)),
 o1 19 (.mov (tm 4)),
 o1 20 (.mov (tm 5)),
 o1 21 (.indexSl 1 (tm 19) (tm 20)),
 o1 22 (.load none (tm 21)),
 o1 23 (.indexArr 4 1 (tm 3) (tm 18)),
 o3 (.store 1 (tm 23) (tm 22))])) (.region [
 o1 16 (.mov (tm 5)),
 o1 17 (.bin .add (so (.binOp .add 3 (tm 16) (.const (.int .i64 1)) 3) 3) (tm 16) (.const (.int .i64 1))),
 o1 5 (.mov (tm 17))])))
noncomputable def lr04_Reader_Key_c : ACode :=
 (.seq (.region [
 o1 2 (.alloc 108 [(.int .u8 0), (.int .u8 0), (.int .u8 0), (.int .u8 0)])]) (.seq (.region [
 o1 3 (.alloc 108 [(.int .u8 0), (.int .u8 0), (.int .u8 0), (.int .u8 0)])]) (.seq (.region [
 o1 6 (.mov (tm 0)),
 o1 7 (.mov (tm 0)),
 o1 8 (.nilCheck (tm 7)),
 o1 9 (.fieldAddr 1 (tm 8)),
 o1 10 (.load none (tm 9)),
 o1 11 (.callV (.func 68) [(tm 6), (.const (.int .i64 4)), (tm 10)]),
 o1 4 (.mov (tm 11))]) (.seq (.seq (.region [
 o1 5 (.mov k0)]) (.block 0 (.loop lr04_Reader_Key_l0))) (.seq (.region [
 o1 24 (.load (some 4) (tm 3)),
 o3 (.store 4 (tm 2) (tm 24))]) .ret)))))
noncomputable def lr04_Reader_Key : AFunc := ⟨25, [(2, some (some 4))], lr04_Reader_Key_c, none⟩
theorem lr04_Reader_Key_t : T0 98 = some lr04_Reader_Key := withKept_t rfl (withTrue_t rfl (by kernel_rfl : tableOf Tryz.prog 98 = some lr04_Reader_Key))
theorem lr04_Reader_Key_runs {v0 : Value} {h : Heap} {R : RP} {X : XP} (k : RunC Tryz.prog T0 lr04_Reader_Key_c ⟨[v0, U, U, U, U, U, U, U, U, U, U, U, U, U, U, U, U, U, U, U, U, U, U, U, U], [], h, none⟩ (bodyQ Tryz.prog T0 [(2, some (some 4))] R X)) :
 Runs Tryz.prog T0 (.fn 98) [v0] h R X := Runs.fn lr04_Reader_Key_t rfl k
/-- the slots that turn in the loop: v5 -/
noncomputable def lr04_Reader_Key_l0_J (f0 f1 f2 f3 f4 f6 f7 f8 f9 f10 f11 f24 : Value) (ds : List Deferred) (rd : Option Nat) (I : Nat → Value → Heap → Prop) (m : Nat) (s : St) : Prop := ∃ (v5 : Value), ∃ h : Heap, ∃ (x12 x13 x14 x15 x16 x17 x18 x19 x20 x21 x22 x23 : Value), s = ⟨[f0, f1, f2, f3, f4, v5, f6, f7, f8, f9, f10, f11, x12, x13, x14, x15, x16, x17, x18, x19, x20, x21, x22, x23, f24], ds, h, rd⟩ ∧ I m v5 h
theorem lr04_Reader_Key_l0_rule {f0 f1 f2 f3 f4 f6 f7 f8 f9 f10 f11 f24 : Value} {ds : List Deferred} {rd : Option Nat} {Q : QP} (I : Nat → Value → Heap → Prop) (hb : ∀ (m : Nat) (v5 : Value) (h : Heap) (x12 x13 x14 x15 x16 x17 x18 x19 x20 x21 x22 x23 : Value) , I m v5 h → RunC Tryz.prog T0 lr04_Reader_Key_l0 ⟨[f0, f1, f2, f3, f4, v5, f6, f7, f8, f9, f10, f11, x12, x13, x14, x15, x16, x17, x18, x19, x20, x21, x22, x23, f24], ds, h, rd⟩ (loopQ (lr04_Reader_Key_l0_J f0 f1 f2 f3 f4 f6 f7 f8 f9 f10 f11 f24 ds rd I) m Q))
 (m : Nat) {v5 : Value} {h : Heap} {x12 x13 x14 x15 x16 x17 x18 x19 x20 x21 x22 x23 : Value} (hi : I m v5 h) : RunC Tryz.prog T0 (.loop lr04_Reader_Key_l0) ⟨[f0, f1, f2, f3, f4, v5, f6, f7, f8, f9, f10, f11, x12, x13, x14, x15, x16, x17, x18, x19, x20, x21, x22, x23, f24], ds, h, rd⟩ Q :=
 RunC.loopJ (lr04_Reader_Key_l0_J f0 f1 f2 f3 f4 f6 f7 f8 f9 f10 f11 f24 ds rd I) (fun m s hj => by obtain ⟨v5, h, x12, x13, x14, x15, x16, x17, x18, x19, x20, x21, x22, x23, rfl, hi⟩ := hj; exact hb m v5 h x12 x13 x14 x15 x16 x17 x18 x19 x20 x21 x22 x23 hi) m _ ⟨_, h, _, _, _, _, _, _, _, _, _, _, _, _, rfl, hi⟩
theorem lr04_Reader_Key_l0_again {f0 f1 f2 f3 f4 f6 f7 f8 f9 f10 f11 f24 : Value} {ds : List Deferred} {rd : Option Nat} {Q : QP} {I : Nat → Value → Heap → Prop} {m : Nat} (m' : Nat) {v5 : Value} {h : Heap} {x12 x13 x14 x15 x16 x17 x18 x19 x20 x21 x22 x23 : Value} (hm : m' < m) (hi : I m' v5 h) : loopQ (lr04_Reader_Key_l0_J f0 f1 f2 f3 f4 f6 f7 f8 f9 f10 f11 f24 ds rd I) m Q .normal ⟨[f0, f1, f2, f3, f4, v5, f6, f7, f8, f9, f10, f11, x12, x13, x14, x15, x16, x17, x18, x19, x20, x21, x22, x23, f24], ds, h, rd⟩ :=
 loopQ.again m' hm ⟨_, h, _, _, _, _, _, _, _, _, _, _, _, _, rfl, hi⟩
abbrev fn_lr05_Check : FuncId := 99
noncomputable def lr05_Check_l0 : ACode :=
 (.seq (.seq (.region [
 o1 12 (.mov (tm 3)),
 o1 13 (.mov (tm 0)),
 o1 14 (.lenSl (tm 13)),
 o1 15 (.bin .lss (so (.binOp .lss 3 (tm 12) (tm 14) 3) 4) (tm 12) (tm 14))]) (.cond (tm 15)
 .skip
 (.exit 1))) (.seq (.block 2 (.block 3 (.seq (.regionD [
 o2 19 (.mov (tm 3)),
 o2 20 (.bin .gtr (so (.binOp .gtr 3 (tm 19) k0 3) 4) (tm 19) k0),
 o2 21 (.mov (tm 20)),
 o4 22 (.mov (tm 0)) 21,
 o4 23 (.mov (tm 3)) 21,
 o4 24 (.bin .sub (so (.binOp .sub 3 (tm 23) (.const (.int .i64 1)) 3) 3) (tm 23) (.const (.int .i64 1))) 21,
 o4 25 (.indexSl 5 (tm 22) (tm 24)) 21,
 o4 26 (.fieldAddr 0 (tm 25)) 21,
 o4 27 (.load (some 4) (tm 26)) 21,
 o4 28 (.mov (tm 0)) 21,
 o4 29 (.mov (tm 3)) 21,
 o4 30 (.indexSl 5 (tm 28) (tm 29)) 21,
 o4 31 (.fieldAddr 0 (tm 30)) 21,
 o4 32 (.load (some 4) (tm 31)) 21,
 ⟨some 33, .callV (.func 138) [(tm 27), (tm 32)], some (21, true), [], true⟩,
 ⟨some 34, .raw (so (.unOp .not 4 (tm 33)) 4), some (21, true), [], true⟩,
 o2 35 (.pick (tm 21) (tm 34) (.const (.bool false))),
 o2 18 (.mov (tm 35))]) (.cond (tm 18)
 (.seq (.region [
 o1 2 (.mov (.const (.int .i64 9)))]) .ret)
 (.seq (.region [
 o1 37 (.mov (tm 0)),
 o1 38 (.mov (tm 3)),
 o1 39 (.indexSl 5 (tm 37) (tm 38)),
 o1 40 (.fieldAddr 4 (tm 39)),
 o1 41 (.load none (tm 40)),
 o1 42 (.bin .lss (so (.binOp .lss 3 (tm 41) (.const (.int .i64 1)) 3) 4) (tm 41) (.const (.int .i64 1))),
 o1 43 (.mov (tm 42)),
 o5 44 (.mov (tm 0)) 43,
 o5 45 (.mov (tm 3)) 43,
 o5 46 (.indexSl 5 (tm 44) (tm 45)) 43,
 o5 47 (.fieldAddr 4 (tm 46)) 43,
 o5 48 (.load none (tm 47)) 43,
 o5 49 (.bin .gtr (so (.binOp .gtr 3 (tm 48) (.const (.int .i64 4611686018427387904)) 3) 4) (tm 48) (.const (.int .i64 4611686018427387904))) 43,
 o1 50 (.pick (tm 43) (.const (.bool true)) (tm 49)),
 o1 36 (.mov (tm 50))]) (.cond (tm 36)
 (.seq (.region [
 o1 2 (.mov (.const (.int .i64 3)))]) .ret)
 .skip)))))) (.region [
 o1 16 (.mov (tm 3)),
 o1 17 (.bin .add (so (.binOp .add 3 (tm 16) (.const (.int .i64 1)) 3) 3) (tm 16) (.const (.int .i64 1))),
 o1 3 (.mov (tm 17))])))
noncomputable def lr05_Check_c : ACode :=
 (.seq (.region [
 o1 2 (.mov k0)]) (.seq (.block 0 (.seq (.region [
 o1 5 (.mov (tm 0)),
 o1 6 (.lenSl (tm 5)),
 o1 7 (.bin .eql (so (.binOp .eql 3 (tm 6) k0 3) 4) (tm 6) k0),
 o1 4 (.mov (tm 7))]) (.cond (tm 4)
 (.seq (.region [
 o1 2 (.mov (.const (.int .i64 6)))]) .ret)
 (.seq (.region [
 o1 9 (.mov (tm 0)),
 o1 10 (.lenSl (tm 9)),
 o1 11 (.bin .gtr (so (.binOp .gtr 3 (tm 10) (.const (.int .i64 64)) 3) 4) (tm 10) (.const (.int .i64 64))),
 o1 8 (.mov (tm 11))]) (.cond (tm 8)
 (.seq (.region [
 o1 2 (.mov (.const (.int .i64 4)))]) .ret)
 .skip))))) (.seq (.seq (.region [
 o1 3 (.mov k0)]) (.block 1 (.loop lr05_Check_l0))) (.seq (.region [
 o1 2 (.mov k0)]) .ret))))
noncomputable def lr05_Check : AFunc := ⟨51, [(2, none)], lr05_Check_c, none⟩
theorem lr05_Check_t : T0 99 = some lr05_Check := withKept_t rfl (withTrue_t rfl (by kernel_rfl : tableOf Tryz.prog 99 = some lr05_Check))
theorem lr05_Check_runs {v0 : Value} {h : Heap} {R : RP} {X : XP} (k : RunC Tryz.prog T0 lr05_Check_c ⟨[v0, U, U, U, U, U, U, U, U, U, U, U, U, U, U, U, U, U, U, U, U, U, U, U, U, U, U, U, U, U, U, U, U, U, U, U, U, U, U, U, U, U, U, U, U, U, U, U, U, U, U], [], h, none⟩ (bodyQ Tryz.prog T0 [(2, none)] R X)) :
 Runs Tryz.prog T0 (.fn 99) [v0] h R X := Runs.fn lr05_Check_t rfl k
/-- the slots that turn in the loop: v3 -/
noncomputable def lr05_Check_l0_J (f0 f1 f4 f5 f6 f7 f8 f9 f10 f11 : Value) (ds : List Deferred) (rd : Option Nat) (I : Nat → Value → Heap → Prop) (m : Nat) (s : St) : Prop := ∃ (v3 : Value), ∃ h : Heap, ∃ (x2 x12 x13 x14 x15 x16 x17 x18 x19 x20 x21 x22 x23 x24 x25 x26 x27 x28 x29 x30 x31 x32 x33 x34 x35 x36 x37 x38 x39 x40 x41 x42 x43 x44 x45 x46 x47 x48 x49 x50 : Value), s = ⟨[f0, f1, x2, v3, f4, f5, f6, f7, f8, f9, f10, f11, x12, x13, x14, x15, x16, x17, x18, x19, x20, x21, x22, x23, x24, x25, x26, x27, x28, x29, x30, x31, x32, x33, x34, x35, x36, x37, x38, x39, x40, x41, x42, x43, x44, x45, x46, x47, x48, x49, x50], ds, h, rd⟩ ∧ I m v3 h
theorem lr05_Check_l0_rule {f0 f1 f4 f5 f6 f7 f8 f9 f10 f11 : Value} {ds : List Deferred} {rd : Option Nat} {Q : QP} (I : Nat → Value → Heap → Prop) (hb : ∀ (m : Nat) (v3 : Value) (h : Heap) (x2 x12 x13 x14 x15 x16 x17 x18 x19 x20 x21 x22 x23 x24 x25 x26 x27 x28 x29 x30 x31 x32 x33 x34 x35 x36 x37 x38 x39 x40 x41 x42 x43 x44 x45 x46 x47 x48 x49 x50 : Value) , I m v3 h → RunC Tryz.prog T0 lr05_Check_l0 ⟨[f0, f1, x2, v3, f4, f5, f6, f7, f8, f9, f10, f11, x12, x13, x14, x15, x16, x17, x18, x19, x20, x21, x22, x23, x24, x25, x26, x27, x28, x29, x30, x31, x32, x33, x34, x35, x36, x37, x38, x39, x40, x41, x42, x43, x44, x45, x46, x47, x48, x49, x50], ds, h, rd⟩ (loopQ (lr05_Check_l0_J f0 f1 f4 f5 f6 f7 f8 f9 f10 f11 ds rd I) m Q))
 (m : Nat) {v3 : Value} {h : Heap} {x2 x12 x13 x14 x15 x16 x17 x18 x19 x20 x21 x22 x23 x24 x25 x26 x27 x28 x29 x30 x31 x32 x33 x34 x35 x36 x37 x38 x39 x40 x41 x42 x43 x44 x45 x46 x47 x48 x49 x50 : Value} (hi : I m v3 h) : RunC Tryz.prog T0 (.loop lr05_Check_l0) ⟨[f0, f1, x2, v3, f4, f5, f6, f7, f8, f9, f10, f11, x12, x13, x14, x15, x16, x17, x18, x19, x20, x21, x22, x23, x24, x25, x26, x27, x28, x29, x30, x31, x32, x33, x34, x35, x36, x37, x38, x39, x40, x41, x42, x43, x44, x45, x46, x47, x48, x49, x50], ds, h, rd⟩ Q :=
 RunC.loopJ (lr05_Check_l0_J f0 f1 f4 f5 f6 f7 f8 f9 f10 f11 ds rd I) (fun m s hj => by obtain ⟨v3, h, x2, x12, x13, x14, x15, x16, x17, x18, x19, x20, x21, x22, x23, x24, x25, x26, x27, x28, x29, x30, x31, x32, x33, x34, x35, x36, x37, x38, x39, x40, x41, x42, x43, x44, x45, x46, x47, x48, x49, x50, rfl, hi⟩ := hj; exact hb m v3 h x2 x12 x13 x14 x15 x16 x17 x18 x19 x20 x21 x22 x23 x24 x25 x26 x27 x28 x29 x30 x31 x32 x33 x34 x35 x36 x37 x38 x39 x40 x41 x42 x43 x44 x45 x46 x47 x48 x49 x50 hi) m _ ⟨_, h, _, _, _, _, _, _, _, _, _, _, _, _, _, _, _, _, _, _, _, _, _, _, _, _, _, _, _, _, _, _, _, _, _, _, _, _, _, _, _, _, rfl, hi⟩
theorem lr05_Check_l0_again {f0 f1 f4 f5 f6 f7 f8 f9 f10 f11 : Value} {ds : List Deferred} {rd : Option Nat} {Q : QP} {I : Nat → Value → Heap → Prop} {m : Nat} (m' : Nat) {v3 : Value} {h : Heap} {x2 x12 x13 x14 x15 x16 x17 x18 x19 x20 x21 x22 x23 x24 x25 x26 x27 x28 x29 x30 x31 x32 x33 x34 x35 x36 x37 x38 x39 x40 x41 x42 x43 x44 x45 x46 x47 x48 x49 x50 : Value} (hm : m' < m) (hi : I m' v3 h) : loopQ (lr05_Check_l0_J f0 f1 f4 f5 f6 f7 f8 f9 f10 f11 ds rd I) m Q .normal ⟨[f0, f1, x2, v3, f4, f5, f6, f7, f8, f9, f10, f11, x12, x13, x14, x15, x16, x17, x18, x19, x20, x21, x22, x23, x24, x25, x26, x27, x28, x29, x30, x31, x32, x33, x34, x35, x36, x37, x38, x39, x40, x41, x42, x43, x44, x45, x46, x47, x48, x49, x50], ds, h, rd⟩ :=
 loopQ.again m' hm ⟨_, h, _, _, _, _, _, _, _, _, _, _, _, _, _, _, _, _, _, _, _, _, _, _, _, _, _, _, _, _, _, _, _, _, _, _, _, _, _, _, _, _, rfl, hi⟩
abbrev fn_lk_SameVotes : FuncId := 100
noncomputable def lk_SameVotes_l0 : ACode :=
 (.seq (.seq (.region [
 o1 12 (.mov (tm 5)),
 o1 13 (.mov (tm 12)),
 o4 14 (.mov (tm 6)) 13,
 o4 15 (.mov (tm 0)) 13,
 o4 16 (.lenSl (tm 15)) 13,
 o4 17 (.bin .lss (so (.binOp .lss 3 (tm 14) (tm 16) 3) 4) (tm 14) (tm 16)) 13,
 o1 18 (.pick (tm 13) (tm 17) (.const (.bool false)))]) (.cond (tm 18)
 .skip
 (.exit 0))) (.seq (.block 1 (.regionD [
 o1 21 (.mov (tm 0)),
 o1 22 (.mov (tm 6)),
 o1 23 (.indexSl 2 (tm 21) (tm 22)),
 o1 24 (.load (some 2) (tm 23)),
 o1 25 (.mov (tm 1)),
 o1 26 (.mov (tm 6)),
 o1 27 (.indexSl 2 (tm 25) (tm 26)),
 o1 28 (.load (some 2) (tm 27)),
 o2 29 (.bin .eql (so (.binOp .eql 112 (tm 24) (tm 28) 112) 4) (tm 24) (tm 28)),
 o2 5 (.mov (tm 29))])) (.region [
 o1 19 (.mov (tm 6)),
 o1 20 (.bin .add (so (.binOp .add 3 (tm 19) (.const (.int .i64 1)) 3) 3) (tm 19) (.const (.int .i64 1))),
 o1 6 (.mov (tm 20))])))
noncomputable def lk_SameVotes_c : ACode :=
 (.seq (.region [
 o1 4 (.mov (.const (.bool false)))]) (.seq (.region [
 o1 7 (.mov (tm 0)),
 o1 8 (.lenSl (tm 7)),
 o1 9 (.mov (tm 1)),
 o1 10 (.lenSl (tm 9)),
 o1 11 (.bin .eql (so (.binOp .eql 3 (tm 8) (tm 10) 3) 4) (tm 8) (tm 10)),
 o1 5 (.mov (tm 11))]) (.seq (.seq (.region [
 o1 6 (.mov k0)]) (.block 0 (.loop lk_SameVotes_l0))) (.seq (.region [
 o1 30 (.mov (tm 5)),
 o1 4 (.mov (tm 30))]) .ret))))
noncomputable def lk_SameVotes : AFunc := ⟨31, [(4, none)], lk_SameVotes_c, none⟩
theorem lk_SameVotes_t : T0 100 = some lk_SameVotes := withKept_t rfl (withTrue_t rfl (by kernel_rfl : tableOf Tryz.prog 100 = some lk_SameVotes))
theorem lk_SameVotes_runs {v0 v1 : Value} {h : Heap} {R : RP} {X : XP} (k : RunC Tryz.prog T0 lk_SameVotes_c ⟨[v0, v1, U, U, U, U, U, U, U, U, U, U, U, U, U, U, U, U, U, U, U, U, U, U, U, U, U, U, U, U, U], [], h, none⟩ (bodyQ Tryz.prog T0 [(4, none)] R X)) :
 Runs Tryz.prog T0 (.fn 100) [v0, v1] h R X := Runs.fn lk_SameVotes_t rfl k
/-- the slots that turn in the loop: v5 v6 -/
noncomputable def lk_SameVotes_l0_J (f0 f1 f2 f3 f4 f7 f8 f9 f10 f11 f30 : Value) (ds : List Deferred) (rd : Option Nat) (I : Nat → Value → Value → Heap → Prop) (m : Nat) (s : St) : Prop := ∃ (v5 v6 : Value), ∃ h : Heap, ∃ (x12 x13 x14 x15 x16 x17 x18 x19 x20 x21 x22 x23 x24 x25 x26 x27 x28 x29 : Value), s = ⟨[f0, f1, f2, f3, f4, v5, v6, f7, f8, f9, f10, f11, x12, x13, x14, x15, x16, x17, x18, x19, x20, x21, x22, x23, x24, x25, x26, x27, x28, x29, f30], ds, h, rd⟩ ∧ I m v5 v6 h
theorem lk_SameVotes_l0_rule {f0 f1 f2 f3 f4 f7 f8 f9 f10 f11 f30 : Value} {ds : List Deferred} {rd : Option Nat} {Q : QP} (I : Nat → Value → Value → Heap → Prop) (hb : ∀ (m : Nat) (v5 v6 : Value) (h : Heap) (x12 x13 x14 x15 x16 x17 x18 x19 x20 x21 x22 x23 x24 x25 x26 x27 x28 x29 : Value) , I m v5 v6 h → RunC Tryz.prog T0 lk_SameVotes_l0 ⟨[f0, f1, f2, f3, f4, v5, v6, f7, f8, f9, f10, f11, x12, x13, x14, x15, x16, x17, x18, x19, x20, x21, x22, x23, x24, x25, x26, x27, x28, x29, f30], ds, h, rd⟩ (loopQ (lk_SameVotes_l0_J f0 f1 f2 f3 f4 f7 f8 f9 f10 f11 f30 ds rd I) m Q))
 (m : Nat) {v5 v6 : Value} {h : Heap} {x12 x13 x14 x15 x16 x17 x18 x19 x20 x21 x22 x23 x24 x25 x26 x27 x28 x29 : Value} (hi : I m v5 v6 h) : RunC Tryz.prog T0 (.loop lk_SameVotes_l0) ⟨[f0, f1, f2, f3, f4, v5, v6, f7, f8, f9, f10, f11, x12, x13, x14, x15, x16, x17, x18, x19, x20, x21, x22, x23, x24, x25, x26, x27, x28, x29, f30], ds, h, rd⟩ Q :=
 RunC.loopJ (lk_SameVotes_l0_J f0 f1 f2 f3 f4 f7 f8 f9 f10 f11 f30 ds rd I) (fun m s hj => by obtain ⟨v5, v6, h, x12, x13, x14, x15, x16, x17, x18, x19, x20, x21, x22, x23, x24, x25, x26, x27, x28, x29, rfl, hi⟩ := hj; exact hb m v5 v6 h x12 x13 x14 x15 x16 x17 x18 x19 x20 x21 x22 x23 x24 x25 x26 x27 x28 x29 hi) m _ ⟨_, _, h, _, _, _, _, _, _, _, _, _, _, _, _, _, _, _, _, _, _, rfl, hi⟩
theorem lk_SameVotes_l0_again {f0 f1 f2 f3 f4 f7 f8 f9 f10 f11 f30 : Value} {ds : List Deferred} {rd : Option Nat} {Q : QP} {I : Nat → Value → Value → Heap → Prop} {m : Nat} (m' : Nat) {v5 v6 : Value} {h : Heap} {x12 x13 x14 x15 x16 x17 x18 x19 x20 x21 x22 x23 x24 x25 x26 x27 x28 x29 : Value} (hm : m' < m) (hi : I m' v5 v6 h) : loopQ (lk_SameVotes_l0_J f0 f1 f2 f3 f4 f7 f8 f9 f10 f11 f30 ds rd I) m Q .normal ⟨[f0, f1, f2, f3, f4, v5, v6, f7, f8, f9, f10, f11, x12, x13, x14, x15, x16, x17, x18, x19, x20, x21, x22, x23, x24, x25, x26, x27, x28, x29, f30], ds, h, rd⟩ :=
 loopQ.again m' hm ⟨_, _, h, _, _, _, _, _, _, _, _, _, _, _, _, _, _, _, _, _, _, rfl, hi⟩
abbrev fn_wire_Reader_caught : FuncId := 102
noncomputable def wire_Reader_caught_c : ACode :=
 (.seq (.region [
 o1 5 (.recover),
 o1 2 (.mov (tm 5))]) (.seq (.region [
 o1 6 (.mov (tm 2)),
 o1 7 (.eq .iface true (so (.binOp .neq 20 (tm 6) (.const .nilIface) 20) 4) (tm 6) (.const .nilIface))]) (.cond (tm 7)
 (.seq (.region [
 o1 9 (.mov (tm 2)),
 o1 10 (.assertTo 150 (.agg ⟨[(.int .i64 0), (.int .i64 0)]⟩) true (tm 9)),
 o1 8 (.mov (tm 10)),
 o1 11 (.extract 0 (tm 8)),
 o1 12 (.extract 1 (tm 8)),
 o1 3 (.alloc 150 [(.int .i64 0), (.int .i64 0)]),
 o3 (.store 2 (tm 3) (tm 11)),
 o1 4 (.mov (tm 12))]) (.seq (.seq (.region [
 o1 13 (.mov (tm 4)),
 o1 14 (.raw (so (.unOp .not 4 (tm 13)) 4))]) (.cond (tm 14)
 (.region [
 o1 15 (.mov (tm 2)),
 o3 (.panic (tm 15))])
 .skip)) (.region [
 o1 16 (.mov (tm 0)),
 o1 17 (.fieldAddr 0 (tm 3)),
 o1 18 (.load (some 2) (tm 17)),
 o1 19 (.nilCheck (tm 16)),
 o1 20 (.fieldAddr 2 (tm 19)),
 o3 (.store 2 (tm 20) (tm 18))])))
 .skip)))
noncomputable def wire_Reader_caught : AFunc := ⟨21, [], wire_Reader_caught_c, none⟩
theorem wire_Reader_caught_t : T0 102 = some wire_Reader_caught := withKept_t rfl (withTrue_t rfl (by kernel_rfl : tableOf Tryz.prog 102 = some wire_Reader_caught))
theorem wire_Reader_caught_runs {v0 : Value} {h : Heap} {R : RP} {X : XP} (k : RunC Tryz.prog T0 wire_Reader_caught_c ⟨[v0, U, U, U, U, U, U, U, U, U, U, U, U, U, U, U, U, U, U, U, U], [], h, none⟩ (bodyQ Tryz.prog T0 [] R X)) :
 Runs Tryz.prog T0 (.fn 102) [v0] h R X := Runs.fn wire_Reader_caught_t rfl k
theorem wire_Reader_caught_df {v0 : Value} {u : FrameMode} {h : Heap} {R : FrameMode → Heap → Prop} {X : List PanicEntry → FrameMode → Heap → Prop} (k : RunT Tryz.prog T0 wire_Reader_caught_c ⟨⟨[v0, U, U, U, U, U, U, U, U, U, U, U, U, U, U, U, U, U, U, U, U], [], h, none⟩, u⟩ (doneQ [] R X)) :
 RunDf Tryz.prog T0 102 [v0] u h R X := RunDf.fn wire_Reader_caught_t rfl k
abbrev fn_wire_take_uint64_ : FuncId := 103
noncomputable def wire_take_uint64__c : ACode :=
 (.seq (.region [
 o1 8 (.mov (.const (.int .u64 0)))]) (.seq (.regionD [
 o1 9 (.mov (tm 1)),
 o1 10 (.mov (tm 0)),
 o1 11 (.nilCheck (tm 10)),
 o1 12 (.fieldAddr 0 (tm 11)),
 o1 13 (.load none (tm 12)),
 o1 14 (.lenSl (tm 13)),
 o1 15 (.mov (tm 0)),
 o1 16 (.nilCheck (tm 15)),
 o1 17 (.fieldAddr 1 (tm 16)),
 o1 18 (.load none (tm 17)),
 o1 19 (.bin .sub (so (.binOp .sub 3 (tm 14) (tm 18) 3) 3) (tm 14) (tm 18)),
 o1 20 (.bin .leq (so (.binOp .leq 3 (tm 9) (tm 19) 3) 4) (tm 9) (tm 19)),
 o1 21 (.mov (tm 2)),
 o2 22 (.callV (.func 66) [(tm 20), (.const (.int .i64 6)), (tm 21)])]) (.seq (.region [
 o1 23 (.mov (tm 0)),
 o1 24 (.nilCheck (tm 23)),
 o1 25 (.fieldAddr 1 (tm 24)),
 o1 26 (.load none (tm 25)),
 o1 27 (.mov (tm 1)),
 o1 28 (.bin .add (so (.binOp .add 3 (tm 26) (tm 27) 3) 3) (tm 26) (tm 27)),
 o1 29 (.nilCheck (tm 23)),
 o1 30 (.fieldAddr 1 (tm 29)),
 o3 (.store 1 (tm 30) (tm 28))]) (.seq (.regionD [
 o1 31 (.mov (tm 3)),
 o1 32 (.mov (tm 0)),
 o1 33 (.nilCheck (tm 32)),
 o1 34 (.fieldAddr 0 (tm 33)),
 o1 35 (.load none (tm 34)),
 o1 36 (.mov (tm 0)),
 o1 37 (.nilCheck (tm 36)),
 o1 38 (.fieldAddr 1 (tm 37)),
 o1 39 (.load none (tm 38)),
 o1 40 (.mov (tm 1)),
 o1 41 (.bin .sub (so (.binOp .sub 3 (tm 39) (tm 40) 3) 3) (tm 39) (tm 40)),
 o1 42 (.mov (tm 0)),
 o1 43 (.nilCheck (tm 42)),
 o1 44 (.fieldAddr 1 (tm 43)),
 o1 45 (.load none (tm 44)),
 o1 46 (.sliceSl 1 (tm 35) (some (tm 41)) (some (tm 45)) none),
 o2 47 (.callV (tm 31) [(tm 46)]),
 o2 8 (.mov (tm 47))]) .ret))))
noncomputable def wire_take_uint64_ : AFunc := ⟨48, [(8, none)], wire_take_uint64__c, none⟩
theorem wire_take_uint64__t : T0 103 = some wire_take_uint64_ := withKept_t rfl (withTrue_t rfl (by kernel_rfl : tableOf Tryz.prog 103 = some wire_take_uint64_))
theorem wire_take_uint64__runs {v0 v1 v2 v3 : Value} {h : Heap} {R : RP} {X : XP} (k : RunC Tryz.prog T0 wire_take_uint64__c ⟨[v0, v1, v2, v3, U, U, U, U, U, U, U, U, U, U, U, U, U, U, U, U, U, U, U, U, U, U, U, U, U, U, U, U, U, U, U, U, U, U, U, U, U, U, U, U, U, U, U, U], [], h, none⟩ (bodyQ Tryz.prog T0 [(8, none)] R X)) :
 Runs Tryz.prog T0 (.fn 103) [v0, v1, v2, v3] h R X := Runs.fn wire_take_uint64__t rfl k
abbrev fn_wire_big : FuncId := 104
noncomputable def wire_big_l0 : ACode :=
 (.seq (.region [
 o1 8 (.bin .lss (so (.binOp .lss 3 (tm 7) (tm 6) 3) 0) (tm 7) (tm 6))]) (.seq (.cond (tm 8)
 .skip
 (.exit 0)) (.seq (.block 1 (.seq (.region [
 o1 9 (.indexSl 1 (tm 5) (tm 7)),
 o1 10 (.load none (tm 9)),
 o1 4 (.mov (tm 10))]) (.region [
 o1 11 (.mov (tm 2)),
 o1 12 (.bin .shl (so (.binOp .shl 105 (tm 11) (.const (.int .u64 8)) 106) 105) (tm 11) (.const (.int .u64 8))),
 o1 13 (.mov (tm 4)),
 o1 14 (.conv .u64 (so (.convert 5 105 (tm 13)) 105) (tm 13)),
 o1 15 (.bin .or (so (.binOp .or 105 (tm 12) (tm 14) 105) 105) (tm 12) (tm 14)),
 o1 2 (.mov (tm 15))]))) (.region [
 o1 16 (.bin .add (so (.binOp .add 3 (tm 7) (.const (.int .i64 1)) 3) 3) (tm 7) (.const (.int .i64 1))),
 o1 7 (.mov (tm 16))]))))
noncomputable def wire_big_c : ACode :=
 (.seq (.region [
 o1 2 (.mov (.const (.int .u64 0)))]) (.seq (.seq (.region [
 o1 5 (.mov (tm 0)),
 o1 6 (.lenSl (tm 5)),
 o1 7 (.mov k0)]) (.block 0 (.loop wire_big_l0))) (.seq (.region [
 o1 17 (.mov (tm 2)),
 o1 2 (.mov (tm 17))]) .ret)))
noncomputable def wire_big : AFunc := ⟨18, [(2, none)], wire_big_c, none⟩
theorem wire_big_t : T0 104 = some wire_big := withKept_t rfl (withTrue_t rfl (by kernel_rfl : tableOf Tryz.prog 104 = some wire_big))
theorem wire_big_runs {v0 : Value} {h : Heap} {R : RP} {X : XP} (k : RunC Tryz.prog T0 wire_big_c ⟨[v0, U, U, U, U, U, U, U, U, U, U, U, U, U, U, U, U, U], [], h, none⟩ (bodyQ Tryz.prog T0 [(2, none)] R X)) :
 Runs Tryz.prog T0 (.fn 104) [v0] h R X := Runs.fn wire_big_t rfl k
/-- the slots that turn in the loop: v2 v7 -/
noncomputable def wire_big_l0_J (f0 f1 f3 f5 f6 f17 : Value) (ds : List Deferred) (rd : Option Nat) (I : Nat → Value → Value → Heap → Prop) (m : Nat) (s : St) : Prop := ∃ (v2 v7 : Value), ∃ h : Heap, ∃ (x4 x8 x9 x10 x11 x12 x13 x14 x15 x16 : Value), s = ⟨[f0, f1, v2, f3, x4, f5, f6, v7, x8, x9, x10, x11, x12, x13, x14, x15, x16, f17], ds, h, rd⟩ ∧ I m v2 v7 h
theorem wire_big_l0_rule {f0 f1 f3 f5 f6 f17 : Value} {ds : List Deferred} {rd : Option Nat} {Q : QP} (I : Nat → Value → Value → Heap → Prop) (hb : ∀ (m : Nat) (v2 v7 : Value) (h : Heap) (x4 x8 x9 x10 x11 x12 x13 x14 x15 x16 : Value) , I m v2 v7 h → RunC Tryz.prog T0 wire_big_l0 ⟨[f0, f1, v2, f3, x4, f5, f6, v7, x8, x9, x10, x11, x12, x13, x14, x15, x16, f17], ds, h, rd⟩ (loopQ (wire_big_l0_J f0 f1 f3 f5 f6 f17 ds rd I) m Q))
 (m : Nat) {v2 v7 : Value} {h : Heap} {x4 x8 x9 x10 x11 x12 x13 x14 x15 x16 : Value} (hi : I m v2 v7 h) : RunC Tryz.prog T0 (.loop wire_big_l0) ⟨[f0, f1, v2, f3, x4, f5, f6, v7, x8, x9, x10, x11, x12, x13, x14, x15, x16, f17], ds, h, rd⟩ Q :=
 RunC.loopJ (wire_big_l0_J f0 f1 f3 f5 f6 f17 ds rd I) (fun m s hj => by obtain ⟨v2, v7, h, x4, x8, x9, x10, x11, x12, x13, x14, x15, x16, rfl, hi⟩ := hj; exact hb m v2 v7 h x4 x8 x9 x10 x11 x12 x13 x14 x15 x16 hi) m _ ⟨_, _, h, _, _, _, _, _, _, _, _, _, _, rfl, hi⟩
theorem wire_big_l0_again {f0 f1 f3 f5 f6 f17 : Value} {ds : List Deferred} {rd : Option Nat} {Q : QP} {I : Nat → Value → Value → Heap → Prop} {m : Nat} (m' : Nat) {v2 v7 : Value} {h : Heap} {x4 x8 x9 x10 x11 x12 x13 x14 x15 x16 : Value} (hm : m' < m) (hi : I m' v2 v7 h) : loopQ (wire_big_l0_J f0 f1 f3 f5 f6 f17 ds rd I) m Q .normal ⟨[f0, f1, v2, f3, x4, f5, f6, v7, x8, x9, x10, x11, x12, x13, x14, x15, x16, f17], ds, h, rd⟩ :=
 loopQ.again m' hm ⟨_, _, h, _, _, _, _, _, _, _, _, _, _, rfl, hi⟩
abbrev fn_wire_Reader_num_1 : FuncId := 105
noncomputable def wire_Reader_num_1_c : ACode :=
 (.seq (.region [
 o1 4 (.mov (.const (.int .u64 0)))]) (.seq (.seq (.region [
 o1 5 (.load none (tm 1)),
 o1 6 (.bin .gtr (so (.binOp .gtr 3 (tm 5) k0 3) 4) (tm 5) k0)]) (.cond (tm 6)
 (.region [
 o1 7 (.mov (tm 0)),
 o1 8 (.indexSl 1 (tm 7) k0),
 o1 9 (.load none (tm 8)),
 o3 (.store 1 (tm 2) (tm 9))])
 .skip)) (.seq (.region [
 o1 10 (.mov (tm 0)),
 o1 11 (.callV (.func 104) [(tm 10)]),
 o1 4 (.mov (tm 11))]) .ret)))
noncomputable def wire_Reader_num_1 : AFunc := ⟨12, [(4, none)], wire_Reader_num_1_c, none⟩
theorem wire_Reader_num_1_t : T0 105 = some wire_Reader_num_1 := withKept_t rfl (withTrue_t rfl (by kernel_rfl : tableOf Tryz.prog 105 = some wire_Reader_num_1))
theorem wire_Reader_num_1_runs {v0 v1 v2 : Value} {h : Heap} {R : RP} {X : XP} (k : RunC Tryz.prog T0 wire_Reader_num_1_c ⟨[v0, v1, v2, U, U, U, U, U, U, U, U, U], [], h, none⟩ (bodyQ Tryz.prog T0 [(4, none)] R X)) :
 Runs Tryz.prog T0 (.fn 105) [v0, v1, v2] h R X := Runs.fn wire_Reader_num_1_t rfl k
abbrev fn_wire_reads_api_Hash_ : FuncId := 123
noncomputable def wire_reads_api_Hash__c : ACode :=
 (.seq (.region [
 o1 4 (.alloc 28 z32)]) (.seq (.seq (.region [
 o1 5 (.mov (tm 0)),
 o1 6 (.eq .ptr false (so (.binOp .eql 61 (tm 5) (.const (.pointer none)) 61) 4) (tm 5) (.const (.pointer none))),
 o1 7 (.mov (tm 6)),
 o5 8 (.mov (tm 0)) 7,
 o5 9 (.nilCheck (tm 8)) 7,
 o5 10 (.fieldAddr 4 (tm 9)) 7,
 o5 11 (.load none (tm 10)) 7,
 o5 12 (.raw (so (.unOp .not 4 (tm 11)) 4)) 7,
 o1 13 (.pick (tm 7) (.const (.bool true)) (tm 12)),
 o1 14 (.mov (tm 13)),
 o5 15 (.mov (tm 0)) 14,
 o5 16 (.nilCheck (tm 15)) 14,
 o5 17 (.fieldAddr 2 (tm 16)) 14,
 o5 18 (.fieldAddr 0 (tm 17)) 14,
 o5 19 (.load none (tm 18)) 14,
 o5 20 (.bin .neq (so (.binOp .neq 41 (tm 19) k0 41) 4) (tm 19) k0) 14,
 o1 21 (.pick (tm 14) (.const (.bool true)) (tm 20))]) (.cond (tm 21)
 (.seq (.region [
 o1 22 (.load (some 32) (tm 4)),
 o3 (.store 32 (tm 4) (tm 22))]) .ret)
 .skip)) (.seq (.region [
 o1 23 (.mov (tm 0)),
 o3 (.defer (.func 102) [(tm 23)])]) (.seq (.region [
 o1 24 (.mov (tm 1)),
 o1 25 (.mov (tm 0)),
 o1 26 (.nilCheck (tm 25)),
 o1 27 (.fieldAddr 1 (tm 26)),
 o1 28 (.load none (tm 27)),
 o1 29 (.callV (tm 24) [(tm 28)]),
 o3 (.store 32 (tm 4) (tm 29))]) .ret))))
noncomputable def wire_reads_api_Hash_ : AFunc := ⟨30, [(4, some (some 32))], wire_reads_api_Hash__c, none⟩
theorem wire_reads_api_Hash__t : T0 123 = some wire_reads_api_Hash_ := withKept_t rfl (withTrue_t rfl (by kernel_rfl : tableOf Tryz.prog 123 = some wire_reads_api_Hash_))
theorem wire_reads_api_Hash__runs {v0 v1 : Value} {h : Heap} {R : RP} {X : XP} (k : RunC Tryz.prog T0 wire_reads_api_Hash__c ⟨[v0, v1, U, U, U, U, U, U, U, U, U, U, U, U, U, U, U, U, U, U, U, U, U, U, U, U, U, U, U, U], [], h, none⟩ (bodyQ Tryz.prog T0 [(4, some (some 32))] R X)) :
 Runs Tryz.prog T0 (.fn 123) [v0, v1] h R X := Runs.fn wire_reads_api_Hash__t rfl k
abbrev fn_wire_Reader_Hash_1 : FuncId := 124
noncomputable def wire_Reader_Hash_1_c : ACode :=
 (.seq (.region [
 o1 3 (.alloc 28 z32)]) (.seq (.region [
 o1 4 (.load none (tm 1)),
 o1 5 (.mov (tm 0)),
 o1 6 (.callV (.func 125) [(tm 4), (.const (.int .i64 32)), (tm 5), (.func 126)]),
 o3 (.store 32 (tm 3) (tm 6))]) .ret))
noncomputable def wire_Reader_Hash_1 : AFunc := ⟨7, [(3, some (some 32))], wire_Reader_Hash_1_c, none⟩
theorem wire_Reader_Hash_1_t : T0 124 = some wire_Reader_Hash_1 := withKept_t rfl (withTrue_t rfl (by kernel_rfl : tableOf Tryz.prog 124 = some wire_Reader_Hash_1))
theorem wire_Reader_Hash_1_runs {v0 v1 : Value} {h : Heap} {R : RP} {X : XP} (k : RunC Tryz.prog T0 wire_Reader_Hash_1_c ⟨[v0, v1, U, U, U, U, U], [], h, none⟩ (bodyQ Tryz.prog T0 [(3, some (some 32))] R X)) :
 Runs Tryz.prog T0 (.fn 124) [v0, v1] h R X := Runs.fn wire_Reader_Hash_1_t rfl k
abbrev fn_wire_take_api_Hash_ : FuncId := 125
noncomputable def wire_take_api_Hash__c : ACode :=
 (.seq (.region [
 o1 8 (.alloc 28 z32)]) (.seq (.regionD [
 o1 9 (.mov (tm 1)),
 o1 10 (.mov (tm 0)),
 o1 11 (.nilCheck (tm 10)),
 o1 12 (.fieldAddr 0 (tm 11)),
 o1 13 (.load none (tm 12)),
 o1 14 (.lenSl (tm 13)),
 o1 15 (.mov (tm 0)),
 o1 16 (.nilCheck (tm 15)),
 o1 17 (.fieldAddr 1 (tm 16)),
 o1 18 (.load none (tm 17)),
 o1 19 (.bin .sub (so (.binOp .sub 3 (tm 14) (tm 18) 3) 3) (tm 14) (tm 18)),
 o1 20 (.bin .leq (so (.binOp .leq 3 (tm 9) (tm 19) 3) 4) (tm 9) (tm 19)),
 o1 21 (.mov (tm 2)),
 o2 22 (.callV (.func 66) [(tm 20), (.const (.int .i64 6)), (tm 21)])]) (.seq (.region [
 o1 23 (.mov (tm 0)),
 o1 24 (.nilCheck (tm 23)),
 o1 25 (.fieldAddr 1 (tm 24)),
 o1 26 (.load none (tm 25)),
 o1 27 (.mov (tm 1)),
 o1 28 (.bin .add (so (.binOp .add 3 (tm 26) (tm 27) 3) 3) (tm 26) (tm 27)),
 o1 29 (.nilCheck (tm 23)),
 o1 30 (.fieldAddr 1 (tm 29)),
 o3 (.store 1 (tm 30) (tm 28))]) (.seq (.regionD [
 o1 31 (.mov (tm 3)),
 o1 32 (.mov (tm 0)),
 o1 33 (.nilCheck (tm 32)),
 o1 34 (.fieldAddr 0 (tm 33)),
 o1 35 (.load none (tm 34)),
 o1 36 (.mov (tm 0)),
 o1 37 (.nilCheck (tm 36)),
 o1 38 (.fieldAddr 1 (tm 37)),
 o1 39 (.load none (tm 38)),
 o1 40 (.mov (tm 1)),
 o1 41 (.bin .sub (so (.binOp .sub 3 (tm 39) (tm 40) 3) 3) (tm 39) (tm 40)),
 o1 42 (.mov (tm 0)),
 o1 43 (.nilCheck (tm 42)),
 o1 44 (.fieldAddr 1 (tm 43)),
 o1 45 (.load none (tm 44)),
 o1 46 (.sliceSl 1 (tm 35) (some (tm 41)) (some (tm 45)) none),
 o2 47 (.callV (tm 31) [(tm 46)]),
 ⟨none, .store 32 (tm 8) (tm 47), none, [], true⟩]) .ret))))
noncomputable def wire_take_api_Hash_ : AFunc := ⟨48, [(8, some (some 32))], wire_take_api_Hash__c, none⟩
theorem wire_take_api_Hash__t : T0 125 = some wire_take_api_Hash_ := withKept_t rfl (withTrue_t rfl (by kernel_rfl : tableOf Tryz.prog 125 = some wire_take_api_Hash_))
theorem wire_take_api_Hash__runs {v0 v1 v2 v3 : Value} {h : Heap} {R : RP} {X : XP} (k : RunC Tryz.prog T0 wire_take_api_Hash__c ⟨[v0, v1, v2, v3, U, U, U, U, U, U, U, U, U, U, U, U, U, U, U, U, U, U, U, U, U, U, U, U, U, U, U, U, U, U, U, U, U, U, U, U, U, U, U, U, U, U, U, U], [], h, none⟩ (bodyQ Tryz.prog T0 [(8, some (some 32))] R X)) :
 Runs Tryz.prog T0 (.fn 125) [v0, v1, v2, v3] h R X := Runs.fn wire_take_api_Hash__t rfl k
abbrev fn_wire_Reader_Hash_1_1 : FuncId := 126
noncomputable def wire_Reader_Hash_1_1_c : ACode :=
 (.seq (.region [
 o1 2 (.alloc 28 z32)]) (.seq (.region [
 o1 3 (.mov (tm 0)),
 o1 4 (.arrayAt 32 (tm 3)),
 o1 5 (.load (some 32) (tm 4)),
 o3 (.store 32 (tm 2) (tm 5))]) .ret))
noncomputable def wire_Reader_Hash_1_1 : AFunc := ⟨6, [(2, some (some 32))], wire_Reader_Hash_1_1_c, none⟩
theorem wire_Reader_Hash_1_1_t : T0 126 = some wire_Reader_Hash_1_1 := withKept_t rfl (withTrue_t rfl (by kernel_rfl : tableOf Tryz.prog 126 = some wire_Reader_Hash_1_1))
theorem wire_Reader_Hash_1_1_runs {v0 : Value} {h : Heap} {R : RP} {X : XP} (k : RunC Tryz.prog T0 wire_Reader_Hash_1_1_c ⟨[v0, U, U, U, U, U], [], h, none⟩ (bodyQ Tryz.prog T0 [(2, some (some 32))] R X)) :
 Runs Tryz.prog T0 (.fn 126) [v0] h R X := Runs.fn wire_Reader_Hash_1_1_t rfl k
abbrev fn_header_rules : FuncId := 127
noncomputable def header_rules_c : ACode :=
 (.seq (.region [
 o1 0 (.mov (.const (.slice none 0 0)))]) (.seq (.region [
 o1 1 (.build [.nilFunc, (.int .i64 0)] [(0, 1, (.func 145)), (1, 1, (.const (.int .i64 5)))]),
 o1 2 (.build [.nilFunc, (.int .i64 0)] [(0, 1, (.func 147)), (1, 1, (.const (.int .i64 3)))]),
 o1 3 (.build [.nilFunc, (.int .i64 0)] [(0, 1, (.func 148)), (1, 1, (.const (.int .i64 3)))]),
 o1 4 (.buildSlice 173 [.nilFunc, (.int .i64 0), .nilFunc, (.int .i64 0), .nilFunc, (.int .i64 0)] 3 [(0, 2, (tm 1)), (2, 2, (tm 2)), (4, 2, (tm 3))]),
 o1 0 (.mov (tm 4))]) .ret))
noncomputable def header_rules : AFunc := ⟨5, [(0, none)], header_rules_c, none⟩
theorem header_rules_t : T0 127 = some header_rules := withKept_t rfl (withTrue_t rfl (by kernel_rfl : tableOf Tryz.prog 127 = some header_rules))
theorem header_rules_runs {v : Value} {h : Heap} {R : RP} {X : XP} (k : RunC Tryz.prog T0 header_rules_c ⟨[undef, U, U, U, U], [], h, none⟩ (bodyQ Tryz.prog T0 [(0, none)] R X)) :
 Runs Tryz.prog T0 (.fn 127) [] h R X := Runs.fn header_rules_t rfl k
abbrev fn_wire_reads_uint64_ : FuncId := 128
noncomputable def wire_reads_uint64__c : ACode :=
 (.seq (.region [
 o1 4 (.mov (.const (.int .u64 0)))]) (.seq (.seq (.region [
 o1 5 (.mov (tm 0)),
 o1 6 (.eq .ptr false (so (.binOp .eql 61 (tm 5) (.const (.pointer none)) 61) 4) (tm 5) (.const (.pointer none))),
 o1 7 (.mov (tm 6)),
 o5 8 (.mov (tm 0)) 7,
 o5 9 (.nilCheck (tm 8)) 7,
 o5 10 (.fieldAddr 4 (tm 9)) 7,
 o5 11 (.load none (tm 10)) 7,
 o5 12 (.raw (so (.unOp .not 4 (tm 11)) 4)) 7,
 o1 13 (.pick (tm 7) (.const (.bool true)) (tm 12)),
 o1 14 (.mov (tm 13)),
 o5 15 (.mov (tm 0)) 14,
 o5 16 (.nilCheck (tm 15)) 14,
 o5 17 (.fieldAddr 2 (tm 16)) 14,
 o5 18 (.fieldAddr 0 (tm 17)) 14,
 o5 19 (.load none (tm 18)) 14,
 o5 20 (.bin .neq (so (.binOp .neq 41 (tm 19) k0 41) 4) (tm 19) k0) 14,
 o1 21 (.pick (tm 14) (.const (.bool true)) (tm 20))]) (.cond (tm 21)
 (.seq (.region [
 o1 22 (.mov (tm 4)),
 o1 4 (.mov (tm 22))]) .ret)
 .skip)) (.seq (.region [
 o1 23 (.mov (tm 0)),
 o3 (.defer (.func 102) [(tm 23)])]) (.seq (.region [
 o1 24 (.mov (tm 1)),
 o1 25 (.mov (tm 0)),
 o1 26 (.nilCheck (tm 25)),
 o1 27 (.fieldAddr 1 (tm 26)),
 o1 28 (.load none (tm 27)),
 o1 29 (.callV (tm 24) [(tm 28)]),
 o1 4 (.mov (tm 29))]) .ret))))
noncomputable def wire_reads_uint64_ : AFunc := ⟨30, [(4, none)], wire_reads_uint64__c, none⟩
theorem wire_reads_uint64__t : T0 128 = some wire_reads_uint64_ := withKept_t rfl (withTrue_t rfl (by kernel_rfl : tableOf Tryz.prog 128 = some wire_reads_uint64_))
theorem wire_reads_uint64__runs {v0 v1 : Value} {h : Heap} {R : RP} {X : XP} (k : RunC Tryz.prog T0 wire_reads_uint64__c ⟨[v0, v1, U, U, U, U, U, U, U, U, U, U, U, U, U, U, U, U, U, U, U, U, U, U, U, U, U, U, U, U], [], h, none⟩ (bodyQ Tryz.prog T0 [(4, none)] R X)) :
 Runs Tryz.prog T0 (.fn 128) [v0, v1] h R X := Runs.fn wire_reads_uint64__t rfl k
abbrev fn_wire_Reader_Word_1 : FuncId := 129
noncomputable def wire_Reader_Word_1_c : ACode :=
 (.seq (.region [
 o1 3 (.mov (.const (.int .u64 0)))]) (.seq (.region [
 o1 4 (.load none (tm 1)),
 o1 5 (.mov (tm 0)),
 o1 6 (.callV (.func 103) [(tm 4), (.const (.int .i64 8)), (tm 5), (.func 104)]),
 o1 3 (.mov (tm 6))]) .ret))
noncomputable def wire_Reader_Word_1 : AFunc := ⟨7, [(3, none)], wire_Reader_Word_1_c, none⟩
theorem wire_Reader_Word_1_t : T0 129 = some wire_Reader_Word_1 := withKept_t rfl (withTrue_t rfl (by kernel_rfl : tableOf Tryz.prog 129 = some wire_Reader_Word_1))
theorem wire_Reader_Word_1_runs {v0 v1 : Value} {h : Heap} {R : RP} {X : XP} (k : RunC Tryz.prog T0 wire_Reader_Word_1_c ⟨[v0, v1, U, U, U, U, U], [], h, none⟩ (bodyQ Tryz.prog T0 [(3, none)] R X)) :
 Runs Tryz.prog T0 (.fn 129) [v0, v1] h R X := Runs.fn wire_Reader_Word_1_t rfl k
abbrev fn_commit_rises : FuncId := 130
noncomputable def commit_rises_c : ACode :=
 (.seq (.region [
 o1 0 (.mov (.const .nilFunc))]) (.seq (.region [
 o1 1 (.alloc 3 [(.int .i64 0)]),
 o3 (.store 1 (tm 1) (.const (.int .i64 (-1))))]) (.seq (.region [
 o1 2 (.mkFunc (.func 149) [] [(tm 1)]),
 o1 0 (.mov (tm 2))]) .ret)))
noncomputable def commit_rises : AFunc := ⟨3, [(0, none)], commit_rises_c, none⟩
theorem commit_rises_t : T0 130 = some commit_rises := withKept_t rfl (withTrue_t rfl (by kernel_rfl : tableOf Tryz.prog 130 = some commit_rises))
theorem commit_rises_runs {v : Value} {h : Heap} {R : RP} {X : XP} (k : RunC Tryz.prog T0 commit_rises_c ⟨[undef, U, U], [], h, none⟩ (bodyQ Tryz.prog T0 [(0, none)] R X)) :
 Runs Tryz.prog T0 (.fn 130) [] h R X := Runs.fn commit_rises_t rfl k
abbrev fn_wire_reads_api_Key_ : FuncId := 131
noncomputable def wire_reads_api_Key__c : ACode :=
 (.seq (.region [
 o1 4 (.alloc 108 [(.int .u8 0), (.int .u8 0), (.int .u8 0), (.int .u8 0)])]) (.seq (.seq (.region [
 o1 5 (.mov (tm 0)),
 o1 6 (.eq .ptr false (so (.binOp .eql 61 (tm 5) (.const (.pointer none)) 61) 4) (tm 5) (.const (.pointer none))),
 o1 7 (.mov (tm 6)),
 o5 8 (.mov (tm 0)) 7,
 o5 9 (.nilCheck (tm 8)) 7,
 o5 10 (.fieldAddr 4 (tm 9)) 7,
 o5 11 (.load none (tm 10)) 7,
 o5 12 (.raw (so (.unOp .not 4 (tm 11)) 4)) 7,
 o1 13 (.pick (tm 7) (.const (.bool true)) (tm 12)),
 o1 14 (.mov (tm 13)),
 o5 15 (.mov (tm 0)) 14,
 o5 16 (.nilCheck (tm 15)) 14,
 o5 17 (.fieldAddr 2 (tm 16)) 14,
 o5 18 (.fieldAddr 0 (tm 17)) 14,
 o5 19 (.load none (tm 18)) 14,
 o5 20 (.bin .neq (so (.binOp .neq 41 (tm 19) k0 41) 4) (tm 19) k0) 14,
 o1 21 (.pick (tm 14) (.const (.bool true)) (tm 20))]) (.cond (tm 21)
 (.seq (.region [
 o1 22 (.load (some 4) (tm 4)),
 o3 (.store 4 (tm 4) (tm 22))]) .ret)
 .skip)) (.seq (.region [
 o1 23 (.mov (tm 0)),
 o3 (.defer (.func 102) [(tm 23)])]) (.seq (.region [
 o1 24 (.mov (tm 1)),
 o1 25 (.mov (tm 0)),
 o1 26 (.nilCheck (tm 25)),
 o1 27 (.fieldAddr 1 (tm 26)),
 o1 28 (.load none (tm 27)),
 o1 29 (.callV (tm 24) [(tm 28)]),
 o3 (.store 4 (tm 4) (tm 29))]) .ret))))
noncomputable def wire_reads_api_Key_ : AFunc := ⟨30, [(4, some (some 4))], wire_reads_api_Key__c, none⟩
theorem wire_reads_api_Key__t : T0 131 = some wire_reads_api_Key_ := withKept_t rfl (withTrue_t rfl (by kernel_rfl : tableOf Tryz.prog 131 = some wire_reads_api_Key_))
theorem wire_reads_api_Key__runs {v0 v1 : Value} {h : Heap} {R : RP} {X : XP} (k : RunC Tryz.prog T0 wire_reads_api_Key__c ⟨[v0, v1, U, U, U, U, U, U, U, U, U, U, U, U, U, U, U, U, U, U, U, U, U, U, U, U, U, U, U, U], [], h, none⟩ (bodyQ Tryz.prog T0 [(4, some (some 4))] R X)) :
 Runs Tryz.prog T0 (.fn 131) [v0, v1] h R X := Runs.fn wire_reads_api_Key__t rfl k
abbrev fn_wire_Reader_Key_1 : FuncId := 132
noncomputable def wire_Reader_Key_1_c : ACode :=
 (.seq (.region [
 o1 3 (.alloc 108 [(.int .u8 0), (.int .u8 0), (.int .u8 0), (.int .u8 0)])]) (.seq (.region [
 o1 4 (.load none (tm 1)),
 o1 5 (.mov (tm 0)),
 o1 6 (.callV (.func 133) [(tm 4), (.const (.int .i64 4)), (tm 5), (.func 134)]),
 o3 (.store 4 (tm 3) (tm 6))]) .ret))
noncomputable def wire_Reader_Key_1 : AFunc := ⟨7, [(3, some (some 4))], wire_Reader_Key_1_c, none⟩
theorem wire_Reader_Key_1_t : T0 132 = some wire_Reader_Key_1 := withKept_t rfl (withTrue_t rfl (by kernel_rfl : tableOf Tryz.prog 132 = some wire_Reader_Key_1))
theorem wire_Reader_Key_1_runs {v0 v1 : Value} {h : Heap} {R : RP} {X : XP} (k : RunC Tryz.prog T0 wire_Reader_Key_1_c ⟨[v0, v1, U, U, U, U, U], [], h, none⟩ (bodyQ Tryz.prog T0 [(3, some (some 4))] R X)) :
 Runs Tryz.prog T0 (.fn 132) [v0, v1] h R X := Runs.fn wire_Reader_Key_1_t rfl k
abbrev fn_wire_take_api_Key_ : FuncId := 133
noncomputable def wire_take_api_Key__c : ACode :=
 (.seq (.region [
 o1 8 (.alloc 108 [(.int .u8 0), (.int .u8 0), (.int .u8 0), (.int .u8 0)])]) (.seq (.regionD [
 o1 9 (.mov (tm 1)),
 o1 10 (.mov (tm 0)),
 o1 11 (.nilCheck (tm 10)),
 o1 12 (.fieldAddr 0 (tm 11)),
 o1 13 (.load none (tm 12)),
 o1 14 (.lenSl (tm 13)),
 o1 15 (.mov (tm 0)),
 o1 16 (.nilCheck (tm 15)),
 o1 17 (.fieldAddr 1 (tm 16)),
 o1 18 (.load none (tm 17)),
 o1 19 (.bin .sub (so (.binOp .sub 3 (tm 14) (tm 18) 3) 3) (tm 14) (tm 18)),
 o1 20 (.bin .leq (so (.binOp .leq 3 (tm 9) (tm 19) 3) 4) (tm 9) (tm 19)),
 o1 21 (.mov (tm 2)),
 o2 22 (.callV (.func 66) [(tm 20), (.const (.int .i64 6)), (tm 21)])]) (.seq (.region [
 o1 23 (.mov (tm 0)),
 o1 24 (.nilCheck (tm 23)),
 o1 25 (.fieldAddr 1 (tm 24)),
 o1 26 (.load none (tm 25)),
 o1 27 (.mov (tm 1)),
 o1 28 (.bin .add (so (.binOp .add 3 (tm 26) (tm 27) 3) 3) (tm 26) (tm 27)),
 o1 29 (.nilCheck (tm 23)),
 o1 30 (.fieldAddr 1 (tm 29)),
 o3 (.store 1 (tm 30) (tm 28))]) (.seq (.regionD [
 o1 31 (.mov (tm 3)),
 o1 32 (.mov (tm 0)),
 o1 33 (.nilCheck (tm 32)),
 o1 34 (.fieldAddr 0 (tm 33)),
 o1 35 (.load none (tm 34)),
 o1 36 (.mov (tm 0)),
 o1 37 (.nilCheck (tm 36)),
 o1 38 (.fieldAddr 1 (tm 37)),
 o1 39 (.load none (tm 38)),
 o1 40 (.mov (tm 1)),
 o1 41 (.bin .sub (so (.binOp .sub 3 (tm 39) (tm 40) 3) 3) (tm 39) (tm 40)),
 o1 42 (.mov (tm 0)),
 o1 43 (.nilCheck (tm 42)),
 o1 44 (.fieldAddr 1 (tm 43)),
 o1 45 (.load none (tm 44)),
 o1 46 (.sliceSl 1 (tm 35) (some (tm 41)) (some (tm 45)) none),
 o2 47 (.callV (tm 31) [(tm 46)]),
 ⟨none, .store 4 (tm 8) (tm 47), none, [], true⟩]) .ret))))
noncomputable def wire_take_api_Key_ : AFunc := ⟨48, [(8, some (some 4))], wire_take_api_Key__c, none⟩
theorem wire_take_api_Key__t : T0 133 = some wire_take_api_Key_ := withKept_t rfl (withTrue_t rfl (by kernel_rfl : tableOf Tryz.prog 133 = some wire_take_api_Key_))
theorem wire_take_api_Key__runs {v0 v1 v2 v3 : Value} {h : Heap} {R : RP} {X : XP} (k : RunC Tryz.prog T0 wire_take_api_Key__c ⟨[v0, v1, v2, v3, U, U, U, U, U, U, U, U, U, U, U, U, U, U, U, U, U, U, U, U, U, U, U, U, U, U, U, U, U, U, U, U, U, U, U, U, U, U, U, U, U, U, U, U], [], h, none⟩ (bodyQ Tryz.prog T0 [(8, some (some 4))] R X)) :
 Runs Tryz.prog T0 (.fn 133) [v0, v1, v2, v3] h R X := Runs.fn wire_take_api_Key__t rfl k
abbrev fn_wire_Reader_Key_1_1 : FuncId := 134
noncomputable def wire_Reader_Key_1_1_c : ACode :=
 (.seq (.region [
 o1 2 (.alloc 108 [(.int .u8 0), (.int .u8 0), (.int .u8 0), (.int .u8 0)])]) (.seq (.region [
 o1 3 (.mov (tm 0)),
 o1 4 (.arrayAt 4 (tm 3)),
 o1 5 (.load (some 4) (tm 4)),
 o3 (.store 4 (tm 2) (tm 5))]) .ret))
noncomputable def wire_Reader_Key_1_1 : AFunc := ⟨6, [(2, some (some 4))], wire_Reader_Key_1_1_c, none⟩
theorem wire_Reader_Key_1_1_t : T0 134 = some wire_Reader_Key_1_1 := withKept_t rfl (withTrue_t rfl (by kernel_rfl : tableOf Tryz.prog 134 = some wire_Reader_Key_1_1))
theorem wire_Reader_Key_1_1_runs {v0 : Value} {h : Heap} {R : RP} {X : XP} (k : RunC Tryz.prog T0 wire_Reader_Key_1_1_c ⟨[v0, U, U, U, U, U], [], h, none⟩ (bodyQ Tryz.prog T0 [(2, some (some 4))] R X)) :
 Runs Tryz.prog T0 (.fn 134) [v0] h R X := Runs.fn wire_Reader_Key_1_1_t rfl k
abbrev fn_vals_look_at : FuncId := 135
noncomputable def vals_look_at_c : ACode :=
 (.seq (.region [
 o1 3 (.box 110 (tm 1)),
 o1 4 (.mov k0)]) (.seq (.regionD [
 o2 6 (.mov (tm 0)),
 o2 7 (.nilCheck (tm 6)),
 o2 8 (.fieldAddr 4 (tm 7)),
 o2 9 (.load none (tm 8)),
 o2 10 (.mov (tm 9)),
 o4 11 (.mov (tm 0)) 10,
 o4 12 (.nilCheck (tm 11)) 10,
 o4 13 (.fieldAddr 0 (tm 12)) 10,
 o4 14 (.sliceArr 4 1 (tm 13) none none) 10,
 o4 15 (.fieldAddr 0 (tm 3)) 10,
 o4 16 (.sliceArr 4 1 (tm 15) none none) 10,
 ⟨some 17, .callV (.func 150) [(tm 14), (tm 16)], some (10, true), [], true⟩,
 ⟨some 18, .bin .geq (so (.binOp .geq 3 (tm 17) k0 3) 4) (tm 17) k0, some (10, true), [], true⟩,
 o2 19 (.pick (tm 10) (tm 18) (.const (.bool false))),
 o2 5 (.mov (tm 19))]) (.seq (.region [
 o1 20 (.mov (tm 0)),
 o1 21 (.mov (tm 0)),
 o1 22 (.fieldAddr 0 (tm 3)),
 o1 23 (.load (some 4) (tm 22)),
 o1 24 (.nilCheck (tm 20)),
 o1 25 (.fieldAddr 0 (tm 24)),
 o3 (.store 4 (tm 25) (tm 23)),
 o1 26 (.nilCheck (tm 21)),
 o1 27 (.fieldAddr 4 (tm 26)),
 o3 (.store 1 (tm 27) (.const (.bool true)))]) (.seq (.block 0 (.seq (.region [
 o1 29 (.mov (tm 5)),
 o1 28 (.mov (tm 29))]) (.cond (tm 28)
 (.seq (.region [
 o1 4 (.mov (.const (.int .i64 9)))]) .ret)
 (.seq (.regionD [
 o1 31 (.fieldAddr 4 (tm 3)),
 o1 32 (.load none (tm 31)),
 o1 33 (.mov (tm 0)),
 o1 34 (.nilCheck (tm 33)),
 o1 35 (.fieldAddr 5 (tm 34)),
 o1 36 (.load none (tm 35)),
 o2 37 (.bin .lss (so (.binOp .lss 3 (tm 32) (tm 36) 3) 4) (tm 32) (tm 36)),
 o2 38 (.mov (tm 37)),
 o5 39 (.fieldAddr 4 (tm 3)) 38,
 o5 40 (.load none (tm 39)) 38,
 o5 41 (.mov (tm 0)) 38,
 o5 42 (.nilCheck (tm 41)) 38,
 o5 43 (.fieldAddr 6 (tm 42)) 38,
 o5 44 (.load none (tm 43)) 38,
 ⟨some 45, .bin .gtr (so (.binOp .gtr 3 (tm 40) (tm 44) 3) 4) (tm 40) (tm 44), some (38, false), [], true⟩,
 o2 46 (.pick (tm 38) (.const (.bool true)) (tm 45)),
 o2 30 (.mov (tm 46))]) (.cond (tm 30)
 (.seq (.region [
 o1 4 (.mov (.const (.int .i64 3)))]) .ret)
 .skip))))) (.seq (.region [
 o1 4 (.mov k0)]) .ret)))))
noncomputable def vals_look_at : AFunc := ⟨47, [(4, none)], vals_look_at_c, none⟩
theorem vals_look_at_t : T0 135 = some vals_look_at := withKept_t rfl (withTrue_t rfl (by kernel_rfl : tableOf Tryz.prog 135 = some vals_look_at))
theorem vals_look_at_runs {v0 v1 : Value} {h : Heap} {R : RP} {X : XP} (k : RunC Tryz.prog T0 vals_look_at_c ⟨[v0, v1, U, U, U, U, U, U, U, U, U, U, U, U, U, U, U, U, U, U, U, U, U, U, U, U, U, U, U, U, U, U, U, U, U, U, U, U, U, U, U, U, U, U, U, U, U], [], h, none⟩ (bodyQ Tryz.prog T0 [(4, none)] R X)) :
 Runs Tryz.prog T0 (.fn 135) [v0, v1] h R X := Runs.fn vals_look_at_t rfl k
abbrev fn_lr04_Reader_Text : FuncId := 136
noncomputable def lr04_Reader_Text_c : ACode :=
 (.seq (.region [
 o1 4 (.mov (.const (.string ⟨⟨[]⟩⟩)))]) (.seq (.region [
 o1 5 (.mov (tm 0)),
 o1 6 (.mov (tm 1)),
 o1 7 (.callV (.func 36) [(tm 5), (tm 6)]),
 o1 8 (.bytesToStr (tm 7)),
 o1 4 (.mov (tm 8))]) .ret))
noncomputable def lr04_Reader_Text : AFunc := ⟨9, [(4, none)], lr04_Reader_Text_c, none⟩
theorem lr04_Reader_Text_t : T0 136 = some lr04_Reader_Text := withKept_t rfl (withTrue_t rfl (by kernel_rfl : tableOf Tryz.prog 136 = some lr04_Reader_Text))
theorem lr04_Reader_Text_runs {v0 v1 : Value} {h : Heap} {R : RP} {X : XP} (k : RunC Tryz.prog T0 lr04_Reader_Text_c ⟨[v0, v1, U, U, U, U, U, U, U], [], h, none⟩ (bodyQ Tryz.prog T0 [(4, none)] R X)) :
 Runs Tryz.prog T0 (.fn 136) [v0, v1] h R X := Runs.fn lr04_Reader_Text_t rfl k
abbrev fn_lr06_Name : FuncId := 137
noncomputable def lr06_Name_l0 : ACode :=
 (.seq (.seq (.region [
 o1 5 (.mov (tm 3)),
 o1 6 (.mov (tm 0)),
 o1 7 (.lenStr (tm 6)),
 o1 8 (.bin .lss (so (.binOp .lss 3 (tm 5) (tm 7) 3) 4) (tm 5) (tm 7))]) (.cond (tm 8)
 .skip
 (.exit 0))) (.seq (.block 1 (.seq (.region [
 o1 11 (.mov (tm 0)),
 o1 12 (.mov (tm 3)),
 o1 13 (.raw (so (.index 9 (tm 11) (tm 12)) 5)),
 o1 4 (.mov (tm 13))]) (.seq (.region [
 o1 14 (.mov (tm 4)),
 o1 15 (.bin .lss (so (.binOp .lss 5 (tm 14) (.const (.int .u8 97)) 5) 4) (tm 14) (.const (.int .u8 97))),
 o1 16 (.mov (tm 15)),
 o5 17 (.mov (tm 4)) 16,
 o5 18 (.bin .gtr (so (.binOp .gtr 5 (tm 17) (.const (.int .u8 122)) 5) 4) (tm 17) (.const (.int .u8 122))) 16,
 o1 19 (.pick (tm 16) (.const (.bool true)) (tm 18)),
 o1 20 (.mov (tm 19)),
 o4 21 (.mov (tm 4)) 20,
 o4 22 (.bin .lss (so (.binOp .lss 5 (tm 21) (.const (.int .u8 48)) 5) 4) (tm 21) (.const (.int .u8 48))) 20,
 o4 23 (.mov (tm 22)) 20,
 o5 24 (.mov (tm 4)) 23,
 o5 25 (.bin .gtr (so (.binOp .gtr 5 (tm 24) (.const (.int .u8 57)) 5) 4) (tm 24) (.const (.int .u8 57))) 23,
 o4 26 (.pick (tm 23) (.const (.bool true)) (tm 25)) 20,
 o1 27 (.pick (tm 20) (tm 26) (.const (.bool false))),
 o1 28 (.mov (tm 27)),
 o4 29 (.mov (tm 4)) 28,
 o4 30 (.bin .neq (so (.binOp .neq 5 (tm 29) (.const (.int .u8 45)) 5) 4) (tm 29) (.const (.int .u8 45))) 28,
 o1 31 (.pick (tm 28) (tm 30) (.const (.bool false)))]) (.cond (tm 31)
 (.seq (.region [
 o1 2 (.mov (.const (.bool false)))]) .ret)
 .skip)))) (.region [
 o1 9 (.mov (tm 3)),
 o1 10 (.bin .add (so (.binOp .add 3 (tm 9) (.const (.int .i64 1)) 3) 3) (tm 9) (.const (.int .i64 1))),
 o1 3 (.mov (tm 10))])))
noncomputable def lr06_Name_c : ACode :=
 (.seq (.region [
 o1 2 (.mov (.const (.bool false)))]) (.seq (.seq (.region [
 o1 3 (.mov k0)]) (.block 0 (.loop lr06_Name_l0))) (.seq (.region [
 o1 32 (.mov (tm 0)),
 o1 33 (.lenStr (tm 32)),
 o1 34 (.bin .geq (so (.binOp .geq 3 (tm 33) (.const (.int .i64 1)) 3) 4) (tm 33) (.const (.int .i64 1))),
 o1 35 (.mov (tm 34)),
 o4 36 (.mov (tm 0)) 35,
 o4 37 (.lenStr (tm 36)) 35,
 o4 38 (.bin .leq (so (.binOp .leq 3 (tm 37) (.const (.int .i64 32)) 3) 4) (tm 37) (.const (.int .i64 32))) 35,
 o1 39 (.pick (tm 35) (tm 38) (.const (.bool false))),
 o1 2 (.mov (tm 39))]) .ret)))
noncomputable def lr06_Name : AFunc := ⟨40, [(2, none)], lr06_Name_c, none⟩
theorem lr06_Name_t : T0 137 = some lr06_Name := withKept_t rfl (withTrue_t rfl (by kernel_rfl : tableOf Tryz.prog 137 = some lr06_Name))
theorem lr06_Name_runs {v0 : Value} {h : Heap} {R : RP} {X : XP} (k : RunC Tryz.prog T0 lr06_Name_c ⟨[v0, U, U, U, U, U, U, U, U, U, U, U, U, U, U, U, U, U, U, U, U, U, U, U, U, U, U, U, U, U, U, U, U, U, U, U, U, U, U, U], [], h, none⟩ (bodyQ Tryz.prog T0 [(2, none)] R X)) :
 Runs Tryz.prog T0 (.fn 137) [v0] h R X := Runs.fn lr06_Name_t rfl k
/-- the slots that turn in the loop: v3 -/
noncomputable def lr06_Name_l0_J (f0 f1 f32 f33 f34 f35 f36 f37 f38 f39 : Value) (ds : List Deferred) (rd : Option Nat) (I : Nat → Value → Heap → Prop) (m : Nat) (s : St) : Prop := ∃ (v3 : Value), ∃ h : Heap, ∃ (x2 x4 x5 x6 x7 x8 x9 x10 x11 x12 x13 x14 x15 x16 x17 x18 x19 x20 x21 x22 x23 x24 x25 x26 x27 x28 x29 x30 x31 : Value), s = ⟨[f0, f1, x2, v3, x4, x5, x6, x7, x8, x9, x10, x11, x12, x13, x14, x15, x16, x17, x18, x19, x20, x21, x22, x23, x24, x25, x26, x27, x28, x29, x30, x31, f32, f33, f34, f35, f36, f37, f38, f39], ds, h, rd⟩ ∧ I m v3 h
theorem lr06_Name_l0_rule {f0 f1 f32 f33 f34 f35 f36 f37 f38 f39 : Value} {ds : List Deferred} {rd : Option Nat} {Q : QP} (I : Nat → Value → Heap → Prop) (hb : ∀ (m : Nat) (v3 : Value) (h : Heap) (x2 x4 x5 x6 x7 x8 x9 x10 x11 x12 x13 x14 x15 x16 x17 x18 x19 x20 x21 x22 x23 x24 x25 x26 x27 x28 x29 x30 x31 : Value) , I m v3 h → RunC Tryz.prog T0 lr06_Name_l0 ⟨[f0, f1, x2, v3, x4, x5, x6, x7, x8, x9, x10, x11, x12, x13, x14, x15, x16, x17, x18, x19, x20, x21, x22, x23, x24, x25, x26, x27, x28, x29, x30, x31, f32, f33, f34, f35, f36, f37, f38, f39], ds, h, rd⟩ (loopQ (lr06_Name_l0_J f0 f1 f32 f33 f34 f35 f36 f37 f38 f39 ds rd I) m Q))
 (m : Nat) {v3 : Value} {h : Heap} {x2 x4 x5 x6 x7 x8 x9 x10 x11 x12 x13 x14 x15 x16 x17 x18 x19 x20 x21 x22 x23 x24 x25 x26 x27 x28 x29 x30 x31 : Value} (hi : I m v3 h) : RunC Tryz.prog T0 (.loop lr06_Name_l0) ⟨[f0, f1, x2, v3, x4, x5, x6, x7, x8, x9, x10, x11, x12, x13, x14, x15, x16, x17, x18, x19, x20, x21, x22, x23, x24, x25, x26, x27, x28, x29, x30, x31, f32, f33, f34, f35, f36, f37, f38, f39], ds, h, rd⟩ Q :=
 RunC.loopJ (lr06_Name_l0_J f0 f1 f32 f33 f34 f35 f36 f37 f38 f39 ds rd I) (fun m s hj => by obtain ⟨v3, h, x2, x4, x5, x6, x7, x8, x9, x10, x11, x12, x13, x14, x15, x16, x17, x18, x19, x20, x21, x22, x23, x24, x25, x26, x27, x28, x29, x30, x31, rfl, hi⟩ := hj; exact hb m v3 h x2 x4 x5 x6 x7 x8 x9 x10 x11 x12 x13 x14 x15 x16 x17 x18 x19 x20 x21 x22 x23 x24 x25 x26 x27 x28 x29 x30 x31 hi) m _ ⟨_, h, _, _, _, _, _, _, _, _, _, _, _, _, _, _, _, _, _, _, _, _, _, _, _, _, _, _, _, _, _, rfl, hi⟩
theorem lr06_Name_l0_again {f0 f1 f32 f33 f34 f35 f36 f37 f38 f39 : Value} {ds : List Deferred} {rd : Option Nat} {Q : QP} {I : Nat → Value → Heap → Prop} {m : Nat} (m' : Nat) {v3 : Value} {h : Heap} {x2 x4 x5 x6 x7 x8 x9 x10 x11 x12 x13 x14 x15 x16 x17 x18 x19 x20 x21 x22 x23 x24 x25 x26 x27 x28 x29 x30 x31 : Value} (hm : m' < m) (hi : I m' v3 h) : loopQ (lr06_Name_l0_J f0 f1 f32 f33 f34 f35 f36 f37 f38 f39 ds rd I) m Q .normal ⟨[f0, f1, x2, v3, x4, x5, x6, x7, x8, x9, x10, x11, x12, x13, x14, x15, x16, x17, x18, x19, x20, x21, x22, x23, x24, x25, x26, x27, x28, x29, x30, x31, f32, f33, f34, f35, f36, f37, f38, f39], ds, h, rd⟩ :=
 loopQ.again m' hm ⟨_, h, _, _, _, _, _, _, _, _, _, _, _, _, _, _, _, _, _, _, _, _, _, _, _, _, _, _, _, _, _, rfl, hi⟩
abbrev fn_lr05_Less : FuncId := 138
noncomputable def lr05_Less_l0 : ACode :=
 (.seq (.seq (.region [
 o1 6 (.mov (tm 5)),
 o1 7 (.bin .lss (so (.binOp .lss 3 (tm 6) (.const (.int .i64 4)) 3) 4) (tm 6) (.const (.int .i64 4)))]) (.cond (tm 7)
 .skip
 (.exit 0))) (.seq (.block 1 (.seq (.regionD [
 o1 10 (.mov (tm 5)),
 o1 11 (.indexArr 4 1 (tm 2) (tm 10)),
 o1 12 (.load none (tm 11)),
 o1 13 (.mov (tm 5)),
 o1 14 (.indexArr 4 1 (tm 3) (tm 13)),
 o1 15 (.load none (tm 14)),
 o2 16 (.bin .neq (so (.binOp .neq 5 (tm 12) (tm 15) 5) 4) (tm 12) (tm 15))]) (.cond (tm 16)
 (.seq (.regionD [
 o1 17 (.mov (tm 5)),
 o1 18 (.indexArr 4 1 (tm 2) (tm 17)),
 o1 19 (.load none (tm 18)),
 o1 20 (.mov (tm 5)),
 o1 21 (.indexArr 4 1 (tm 3) (tm 20)),
 o1 22 (.load none (tm 21)),
 o2 23 (.bin .lss (so (.binOp .lss 5 (tm 19) (tm 22) 5) 4) (tm 19) (tm 22)),
 o2 4 (.mov (tm 23))]) .ret)
 .skip))) (.region [
 o1 8 (.mov (tm 5)),
 o1 9 (.bin .add (so (.binOp .add 3 (tm 8) (.const (.int .i64 1)) 3) 3) (tm 8) (.const (.int .i64 1))),
 o1 5 (.mov (tm 9))])))
noncomputable def lr05_Less_c : ACode :=
 (.seq (.region [
 o1 2 (.box 108 (tm 0)),
 o1 3 (.box 108 (tm 1)),
 o1 4 (.mov (.const (.bool false)))]) (.seq (.seq (.region [
 o1 5 (.mov k0)]) (.block 0 (.loop lr05_Less_l0))) (.seq (.region [
 o1 4 (.mov (.const (.bool false)))]) .ret)))
noncomputable def lr05_Less : AFunc := ⟨24, [(4, none)], lr05_Less_c, none⟩
theorem lr05_Less_t : T0 138 = some lr05_Less := withKept_t rfl (withTrue_t rfl (by kernel_rfl : tableOf Tryz.prog 138 = some lr05_Less))
theorem lr05_Less_runs {v0 v1 : Value} {h : Heap} {R : RP} {X : XP} (k : RunC Tryz.prog T0 lr05_Less_c ⟨[v0, v1, U, U, U, U, U, U, U, U, U, U, U, U, U, U, U, U, U, U, U, U, U, U], [], h, none⟩ (bodyQ Tryz.prog T0 [(4, none)] R X)) :
 Runs Tryz.prog T0 (.fn 138) [v0, v1] h R X := Runs.fn lr05_Less_t rfl k
/-- the slots that turn in the loop: v5 -/
noncomputable def lr05_Less_l0_J (f0 f1 f2 f3 : Value) (ds : List Deferred) (rd : Option Nat) (I : Nat → Value → Heap → Prop) (m : Nat) (s : St) : Prop := ∃ (v5 : Value), ∃ h : Heap, ∃ (x4 x6 x7 x8 x9 x10 x11 x12 x13 x14 x15 x16 x17 x18 x19 x20 x21 x22 x23 : Value), s = ⟨[f0, f1, f2, f3, x4, v5, x6, x7, x8, x9, x10, x11, x12, x13, x14, x15, x16, x17, x18, x19, x20, x21, x22, x23], ds, h, rd⟩ ∧ I m v5 h
theorem lr05_Less_l0_rule {f0 f1 f2 f3 : Value} {ds : List Deferred} {rd : Option Nat} {Q : QP} (I : Nat → Value → Heap → Prop) (hb : ∀ (m : Nat) (v5 : Value) (h : Heap) (x4 x6 x7 x8 x9 x10 x11 x12 x13 x14 x15 x16 x17 x18 x19 x20 x21 x22 x23 : Value) , I m v5 h → RunC Tryz.prog T0 lr05_Less_l0 ⟨[f0, f1, f2, f3, x4, v5, x6, x7, x8, x9, x10, x11, x12, x13, x14, x15, x16, x17, x18, x19, x20, x21, x22, x23], ds, h, rd⟩ (loopQ (lr05_Less_l0_J f0 f1 f2 f3 ds rd I) m Q))
 (m : Nat) {v5 : Value} {h : Heap} {x4 x6 x7 x8 x9 x10 x11 x12 x13 x14 x15 x16 x17 x18 x19 x20 x21 x22 x23 : Value} (hi : I m v5 h) : RunC Tryz.prog T0 (.loop lr05_Less_l0) ⟨[f0, f1, f2, f3, x4, v5, x6, x7, x8, x9, x10, x11, x12, x13, x14, x15, x16, x17, x18, x19, x20, x21, x22, x23], ds, h, rd⟩ Q :=
 RunC.loopJ (lr05_Less_l0_J f0 f1 f2 f3 ds rd I) (fun m s hj => by obtain ⟨v5, h, x4, x6, x7, x8, x9, x10, x11, x12, x13, x14, x15, x16, x17, x18, x19, x20, x21, x22, x23, rfl, hi⟩ := hj; exact hb m v5 h x4 x6 x7 x8 x9 x10 x11 x12 x13 x14 x15 x16 x17 x18 x19 x20 x21 x22 x23 hi) m _ ⟨_, h, _, _, _, _, _, _, _, _, _, _, _, _, _, _, _, _, _, _, _, rfl, hi⟩
theorem lr05_Less_l0_again {f0 f1 f2 f3 : Value} {ds : List Deferred} {rd : Option Nat} {Q : QP} {I : Nat → Value → Heap → Prop} {m : Nat} (m' : Nat) {v5 : Value} {h : Heap} {x4 x6 x7 x8 x9 x10 x11 x12 x13 x14 x15 x16 x17 x18 x19 x20 x21 x22 x23 : Value} (hm : m' < m) (hi : I m' v5 h) : loopQ (lr05_Less_l0_J f0 f1 f2 f3 ds rd I) m Q .normal ⟨[f0, f1, f2, f3, x4, v5, x6, x7, x8, x9, x10, x11, x12, x13, x14, x15, x16, x17, x18, x19, x20, x21, x22, x23], ds, h, rd⟩ :=
 loopQ.again m' hm ⟨_, h, _, _, _, _, _, _, _, _, _, _, _, _, _, _, _, _, _, _, _, rfl, hi⟩
abbrev fn_header_rules_1 : FuncId := 145
noncomputable def header_rules_1_c : ACode :=
 (.seq (.region [
 o1 1 (.box 30 (tm 0)),
 o1 2 (.mov (.const (.bool false)))]) (.seq (.region [
 o1 3 (.fieldAddr 0 (tm 1)),
 o1 4 (.load none (tm 3)),
 o1 5 (.callV (.func 146) [(tm 4)]),
 o1 2 (.mov (tm 5))]) .ret))
noncomputable def header_rules_1 : AFunc := ⟨6, [(2, none)], header_rules_1_c, none⟩
theorem header_rules_1_t : T0 145 = some header_rules_1 := withKept_t rfl (withTrue_t rfl (by kernel_rfl : tableOf Tryz.prog 145 = some header_rules_1))
theorem header_rules_1_runs {v0 : Value} {h : Heap} {R : RP} {X : XP} (k : RunC Tryz.prog T0 header_rules_1_c ⟨[v0, U, U, U, U, U], [], h, none⟩ (bodyQ Tryz.prog T0 [(2, none)] R X)) :
 Runs Tryz.prog T0 (.fn 145) [v0] h R X := Runs.fn header_rules_1_t rfl k
abbrev fn_header_Name : FuncId := 146
noncomputable def header_Name_c : ACode :=
 (.seq (.region [
 o1 2 (.mov (.const (.bool false)))]) (.seq (.region [
 o1 3 (.mov (tm 0)),
 o1 4 (.lenStr (tm 3)),
 o1 5 (.bin .geq (so (.binOp .geq 3 (tm 4) (.const (.int .i64 1)) 3) 4) (tm 4) (.const (.int .i64 1))),
 o1 6 (.mov (tm 5)),
 o4 7 (.mov (tm 0)) 6,
 o4 8 (.lenStr (tm 7)) 6,
 o4 9 (.bin .leq (so (.binOp .leq 3 (tm 8) (.const (.int .i64 32)) 3) 4) (tm 8) (.const (.int .i64 32))) 6,
 o1 10 (.pick (tm 6) (tm 9) (.const (.bool false))),
 o1 11 (.mov (tm 10)),
 o4 12 (.mov (tm 0)) 11,
 o4 13 (.callV (.func 157) [(tm 12), (.func 158)]) 11,
 o1 14 (.pick (tm 11) (tm 13) (.const (.bool false))),
 o1 2 (.mov (tm 14))]) .ret))
noncomputable def header_Name : AFunc := ⟨15, [(2, none)], header_Name_c, none⟩
theorem header_Name_t : T0 146 = some header_Name := withKept_t rfl (withTrue_t rfl (by kernel_rfl : tableOf Tryz.prog 146 = some header_Name))
theorem header_Name_runs {v0 : Value} {h : Heap} {R : RP} {X : XP} (k : RunC Tryz.prog T0 header_Name_c ⟨[v0, U, U, U, U, U, U, U, U, U, U, U, U, U, U], [], h, none⟩ (bodyQ Tryz.prog T0 [(2, none)] R X)) :
 Runs Tryz.prog T0 (.fn 146) [v0] h R X := Runs.fn header_Name_t rfl k
abbrev fn_header_rules_2 : FuncId := 147
noncomputable def header_rules_2_c : ACode :=
 (.seq (.region [
 o1 1 (.box 30 (tm 0)),
 o1 2 (.mov (.const (.bool false)))]) (.seq (.region [
 o1 3 (.fieldAddr 1 (tm 1)),
 o1 4 (.load none (tm 3)),
 o1 5 (.bin .geq (so (.binOp .geq 3 (tm 4) (.const (.int .i64 1)) 3) 4) (tm 4) (.const (.int .i64 1))),
 o1 6 (.mov (tm 5)),
 o4 7 (.fieldAddr 1 (tm 1)) 6,
 o4 8 (.load none (tm 7)) 6,
 o4 9 (.bin .leq (so (.binOp .leq 3 (tm 8) (.const (.int .i64 1073741824)) 3) 4) (tm 8) (.const (.int .i64 1073741824))) 6,
 o1 10 (.pick (tm 6) (tm 9) (.const (.bool false))),
 o1 2 (.mov (tm 10))]) .ret))
noncomputable def header_rules_2 : AFunc := ⟨11, [(2, none)], header_rules_2_c, none⟩
theorem header_rules_2_t : T0 147 = some header_rules_2 := withKept_t rfl (withTrue_t rfl (by kernel_rfl : tableOf Tryz.prog 147 = some header_rules_2))
theorem header_rules_2_runs {v0 : Value} {h : Heap} {R : RP} {X : XP} (k : RunC Tryz.prog T0 header_rules_2_c ⟨[v0, U, U, U, U, U, U, U, U, U, U], [], h, none⟩ (bodyQ Tryz.prog T0 [(2, none)] R X)) :
 Runs Tryz.prog T0 (.fn 147) [v0] h R X := Runs.fn header_rules_2_t rfl k
abbrev fn_header_rules_3 : FuncId := 148
noncomputable def header_rules_3_c : ACode :=
 (.seq (.region [
 o1 1 (.box 30 (tm 0)),
 o1 2 (.mov (.const (.bool false)))]) (.seq (.region [
 o1 3 (.fieldAddr 2 (tm 1)),
 o1 4 (.load none (tm 3)),
 o1 5 (.bin .geq (so (.binOp .geq 3 (tm 4) k0 3) 4) (tm 4) k0),
 o1 6 (.mov (tm 5)),
 o4 7 (.fieldAddr 2 (tm 1)) 6,
 o4 8 (.load none (tm 7)) 6,
 o4 9 (.bin .leq (so (.binOp .leq 3 (tm 8) (.const (.int .i64 1099511627776)) 3) 4) (tm 8) (.const (.int .i64 1099511627776))) 6,
 o1 10 (.pick (tm 6) (tm 9) (.const (.bool false))),
 o1 2 (.mov (tm 10))]) .ret))
noncomputable def header_rules_3 : AFunc := ⟨11, [(2, none)], header_rules_3_c, none⟩
theorem header_rules_3_t : T0 148 = some header_rules_3 := withKept_t rfl (withTrue_t rfl (by kernel_rfl : tableOf Tryz.prog 148 = some header_rules_3))
theorem header_rules_3_runs {v0 : Value} {h : Heap} {R : RP} {X : XP} (k : RunC Tryz.prog T0 header_rules_3_c ⟨[v0, U, U, U, U, U, U, U, U, U, U], [], h, none⟩ (bodyQ Tryz.prog T0 [(2, none)] R X)) :
 Runs Tryz.prog T0 (.fn 148) [v0] h R X := Runs.fn header_rules_3_t rfl k
abbrev fn_commit_rises_1 : FuncId := 149
noncomputable def commit_rises_1_c : ACode :=
 (.seq (.region [
 o1 2 (.box 112 (tm 0)),
 o1 3 (.mov k0)]) (.seq (.block 0 (.seq (.region [
 o1 5 (.fieldAddr 0 (tm 2)),
 o1 6 (.load none (tm 5)),
 o1 7 (.bin .lss (so (.binOp .lss 3 (tm 6) k0 3) 4) (tm 6) k0),
 o1 8 (.mov (tm 7)),
 o5 9 (.fieldAddr 0 (tm 2)) 8,
 o5 10 (.load none (tm 9)) 8,
 o5 11 (.bin .geq (so (.binOp .geq 3 (tm 10) (.const (.int .i64 64)) 3) 4) (tm 10) (.const (.int .i64 64))) 8,
 o1 12 (.pick (tm 8) (.const (.bool true)) (tm 11)),
 o1 4 (.mov (tm 12))]) (.cond (tm 4)
 (.seq (.region [
 o1 3 (.mov (.const (.int .i64 3)))]) .ret)
 (.seq (.region [
 o1 14 (.fieldAddr 0 (tm 2)),
 o1 15 (.load none (tm 14)),
 o1 16 (.load none (tm 1)),
 o1 17 (.bin .leq (so (.binOp .leq 3 (tm 15) (tm 16) 3) 4) (tm 15) (tm 16)),
 o1 13 (.mov (tm 17))]) (.cond (tm 13)
 (.seq (.region [
 o1 3 (.mov (.const (.int .i64 9)))]) .ret)
 .skip))))) (.seq (.region [
 o1 18 (.fieldAddr 0 (tm 2)),
 o1 19 (.load none (tm 18)),
 o3 (.store 1 (tm 1) (tm 19))]) (.seq (.region [
 o1 3 (.mov k0)]) .ret))))
noncomputable def commit_rises_1 : AFunc := ⟨20, [(3, none)], commit_rises_1_c, none⟩
theorem commit_rises_1_t : T0 149 = some commit_rises_1 := withKept_t rfl (withTrue_t rfl (by kernel_rfl : tableOf Tryz.prog 149 = some commit_rises_1))
theorem commit_rises_1_runs {v0 v1 : Value} {h : Heap} {R : RP} {X : XP} (k : RunC Tryz.prog T0 commit_rises_1_c ⟨[v0, v1, U, U, U, U, U, U, U, U, U, U, U, U, U, U, U, U, U, U], [], h, none⟩ (bodyQ Tryz.prog T0 [(3, none)] R X)) :
 Runs Tryz.prog T0 (.fn 149) [v0, v1] h R X := Runs.fn commit_rises_1_t rfl k
abbrev fn_bytes_Compare : FuncId := 150
noncomputable def bytes_Compare_c : ACode :=
 (.seq (.region [
 o1 4 (.mov k0)]) (.seq (.region [
 o1 5 (.mov (tm 0)),
 o1 6 (.mov (tm 1)),
 o1 7 (.ext .compare (.func 159) [(tm 5), (tm 6)]),
 o1 4 (.mov (tm 7))]) .ret))
noncomputable def bytes_Compare : AFunc := ⟨8, [(4, none)], bytes_Compare_c, none⟩
theorem bytes_Compare_t : T0 150 = some bytes_Compare := withKept_t rfl (withTrue_t rfl (by kernel_rfl : tableOf Tryz.prog 150 = some bytes_Compare))
theorem bytes_Compare_runs {v0 v1 : Value} {h : Heap} {R : RP} {X : XP} (k : RunC Tryz.prog T0 bytes_Compare_c ⟨[v0, v1, U, U, U, U, U, U], [], h, none⟩ (bodyQ Tryz.prog T0 [(4, none)] R X)) :
 Runs Tryz.prog T0 (.fn 150) [v0, v1] h R X := Runs.fn bytes_Compare_t rfl k
abbrev fn_header_each : FuncId := 157
noncomputable def header_each_l0 : ACode :=
 (.seq (.region [
 o1 9 (.nextStr (tm 8)),
 o1 10 (.extract 0 (tm 9))]) (.seq (.cond (tm 10)
 .skip
 (.exit 0)) (.block 1 (.seq (.region [
 o1 11 (.extract 2 (tm 9)),
 o1 6 (.mov (tm 11))]) (.seq (.region [
 o1 12 (.mov (tm 1)),
 o1 13 (.mov (tm 6)),
 o1 14 (.callV (tm 12) [(tm 13)]),
 o1 15 (.raw (so (.unOp .not 4 (tm 14)) 4))]) (.cond (tm 15)
 (.seq (.region [
 o1 4 (.mov (.const (.bool false)))]) .ret)
 .skip))))))
noncomputable def header_each_c : ACode :=
 (.seq (.region [
 o1 4 (.mov (.const (.bool false)))]) (.seq (.seq (.region [
 o1 7 (.mov (tm 0)),
 o1 8 (.rangeStr (tm 7))]) (.block 0 (.loop header_each_l0))) (.seq (.region [
 o1 4 (.mov (.const (.bool true)))]) .ret)))
noncomputable def header_each : AFunc := ⟨16, [(4, none)], header_each_c, none⟩
theorem header_each_t : T0 157 = some header_each := withKept_t rfl (withTrue_t rfl (by kernel_rfl : tableOf Tryz.prog 157 = some header_each))
theorem header_each_runs {v0 v1 : Value} {h : Heap} {R : RP} {X : XP} (k : RunC Tryz.prog T0 header_each_c ⟨[v0, v1, U, U, U, U, U, U, U, U, U, U, U, U, U, U], [], h, none⟩ (bodyQ Tryz.prog T0 [(4, none)] R X)) :
 Runs Tryz.prog T0 (.fn 157) [v0, v1] h R X := Runs.fn header_each_t rfl k
/-- the slots that turn in the loop:  -/
noncomputable def header_each_l0_J (f0 f1 f2 f3 f5 f7 f8 : Value) (ds : List Deferred) (rd : Option Nat) (I : Nat → Heap → Prop) (m : Nat) (s : St) : Prop := ∃ h : Heap, ∃ (x4 x6 x9 x10 x11 x12 x13 x14 x15 : Value), s = ⟨[f0, f1, f2, f3, x4, f5, x6, f7, f8, x9, x10, x11, x12, x13, x14, x15], ds, h, rd⟩ ∧ I m  h
theorem header_each_l0_rule {f0 f1 f2 f3 f5 f7 f8 : Value} {ds : List Deferred} {rd : Option Nat} {Q : QP} (I : Nat → Heap → Prop) (hb : ∀ (m : Nat) (h : Heap) (x4 x6 x9 x10 x11 x12 x13 x14 x15 : Value) , I m  h → RunC Tryz.prog T0 header_each_l0 ⟨[f0, f1, f2, f3, x4, f5, x6, f7, f8, x9, x10, x11, x12, x13, x14, x15], ds, h, rd⟩ (loopQ (header_each_l0_J f0 f1 f2 f3 f5 f7 f8 ds rd I) m Q))
 (m : Nat) {v : Value} {h : Heap} {x4 x6 x9 x10 x11 x12 x13 x14 x15 : Value} (hi : I m  h) : RunC Tryz.prog T0 (.loop header_each_l0) ⟨[f0, f1, f2, f3, x4, f5, x6, f7, f8, x9, x10, x11, x12, x13, x14, x15], ds, h, rd⟩ Q :=
 RunC.loopJ (header_each_l0_J f0 f1 f2 f3 f5 f7 f8 ds rd I) (fun m s hj => by obtain ⟨h, x4, x6, x9, x10, x11, x12, x13, x14, x15, rfl, hi⟩ := hj; exact hb m  h x4 x6 x9 x10 x11 x12 x13 x14 x15 hi) m _ ⟨h, _, _, _, _, _, _, _, _, _, rfl, hi⟩
theorem header_each_l0_again {f0 f1 f2 f3 f5 f7 f8 : Value} {ds : List Deferred} {rd : Option Nat} {Q : QP} {I : Nat → Heap → Prop} {m : Nat} (m' : Nat) {v : Value} {h : Heap} {x4 x6 x9 x10 x11 x12 x13 x14 x15 : Value} (hm : m' < m) (hi : I m'  h) : loopQ (header_each_l0_J f0 f1 f2 f3 f5 f7 f8 ds rd I) m Q .normal ⟨[f0, f1, f2, f3, x4, f5, x6, f7, f8, x9, x10, x11, x12, x13, x14, x15], ds, h, rd⟩ :=
 loopQ.again m' hm ⟨h, _, _, _, _, _, _, _, _, _, rfl, hi⟩
abbrev fn_header_plain : FuncId := 158
noncomputable def header_plain_c : ACode :=
 (.seq (.region [
 o1 2 (.mov (.const (.bool false)))]) (.seq (.region [
 o1 3 (.mov (tm 0)),
 o1 4 (.bin .geq (so (.binOp .geq 21 (tm 3) (.const (.int .i32 97)) 21) 4) (tm 3) (.const (.int .i32 97))),
 o1 5 (.mov (tm 4)),
 o4 6 (.mov (tm 0)) 5,
 o4 7 (.bin .leq (so (.binOp .leq 21 (tm 6) (.const (.int .i32 122)) 21) 4) (tm 6) (.const (.int .i32 122))) 5,
 o1 8 (.pick (tm 5) (tm 7) (.const (.bool false))),
 o1 9 (.mov (tm 8)),
 o5 10 (.mov (tm 0)) 9,
 o5 11 (.bin .geq (so (.binOp .geq 21 (tm 10) (.const (.int .i32 48)) 21) 4) (tm 10) (.const (.int .i32 48))) 9,
 o5 12 (.mov (tm 11)) 9,
 o4 13 (.mov (tm 0)) 12,
 o4 14 (.bin .leq (so (.binOp .leq 21 (tm 13) (.const (.int .i32 57)) 21) 4) (tm 13) (.const (.int .i32 57))) 12,
 o5 15 (.pick (tm 12) (tm 14) (.const (.bool false))) 9,
 o1 16 (.pick (tm 9) (.const (.bool true)) (tm 15)),
 o1 17 (.mov (tm 16)),
 o5 18 (.mov (tm 0)) 17,
 o5 19 (.bin .eql (so (.binOp .eql 21 (tm 18) (.const (.int .i32 45)) 21) 4) (tm 18) (.const (.int .i32 45))) 17,
 o1 20 (.pick (tm 17) (.const (.bool true)) (tm 19)),
 o1 2 (.mov (tm 20))]) .ret))
noncomputable def header_plain : AFunc := ⟨21, [(2, none)], header_plain_c, none⟩
theorem header_plain_t : T0 158 = some header_plain := withKept_t rfl (withTrue_t rfl (by kernel_rfl : tableOf Tryz.prog 158 = some header_plain))
theorem header_plain_runs {v0 : Value} {h : Heap} {R : RP} {X : XP} (k : RunC Tryz.prog T0 header_plain_c ⟨[v0, U, U, U, U, U, U, U, U, U, U, U, U, U, U, U, U, U, U, U, U], [], h, none⟩ (bodyQ Tryz.prog T0 [(2, none)] R X)) :
 Runs Tryz.prog T0 (.fn 158) [v0] h R X := Runs.fn header_plain_t rfl k
end Go.Proofs.YtfpnmcogfamhaaaGreat.A
